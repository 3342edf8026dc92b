/- WALK: ostraconref09.Apart. -/
import Derived.Test.YtoljnbbhoeloeaaApart
import Derived.Test.YtoljnbbhoeloeaaAtMost
namespace Go.Proofs.Ytoljnbbhoeloeaa
open Go.RowKit
set_option maxRecDepth 100000 in
theorem limited_any (n d : Int) (w : World) :
    Calls Try.prog 63 #[.agg #[.int .i64 n, .int .i64 d]] w fun e w' => e = .returned (.bool (decide (1 ≤ d ∧ d ≤ 10000 ∧ 0 ≤ n ∧ n ≤ d))) ∧ Below w.heap.size w w' := by
  have hB := (Below.refl w.heap.size w).alloc (Nat.le_refl _) (.cells #[.int .i64 n, .int .i64 d] 43)
  by_cases h1 : 1 ≤ d
  · by_cases h2 : d ≤ 10000
    · by_cases h3 : 0 ≤ n
      · by_cases h4 : n ≤ d
        all_goals
          go_enter Try.func63, Try.ntmps63
          go_wp2_with fail
          go_ret
          exact ⟨by simp [h1, h2, h3, h4], hB⟩
      · go_enter Try.func63, Try.ntmps63
        go_wp2_with fail
        go_ret
        exact ⟨by simp [h1, h2, h3]; omega, hB⟩
    · go_enter Try.func63, Try.ntmps63
      go_wp2_with fail
      go_ret
      exact ⟨by simp [h1, h2]; omega, hB⟩
  · go_enter Try.func63, Try.ntmps63
    go_wp2_with fail
    go_ret
    exact ⟨by simp [h1]; omega, hB⟩
set_option maxRecDepth 100000 in
set_option maxHeartbeats 2000000 in
theorem ref_apart_any (a b : List (Int × Int)) (n d : Int) (Aa Ab : Option Addr) (ca cb : Nat) (w : World) (ra : Rp w w.heap.size Aa a) (rb : Rp w w.heap.size Ab b) :
    Calls Try.prog 31 #[.slice Aa a.length ca, .slice Ab b.length cb, .agg #[.int .i64 n, .int .i64 d]] w fun e w' => e = .returned (.tuple #[.bool (tlIs a b n d), .int .i64 (tlErr a b n d)]) ∧ Below w.heap.size w w' := by
  by_cases hshape : a.length = b.length ∧ 1 ≤ a.length ∧ a.length ≤ 12
  · obtain ⟨hl, hl1, hl2⟩ := hshape
    obtain ⟨la, hla⟩ : ∃ la, la = a.length := ⟨_, rfl⟩
    have hlb : la = b.length := hla.trans hl
    rw [← hla, ← hlb]
    rw [← hla] at hl1 hl2
    obtain ⟨ba, oa, rfl, hba, hca⟩ := ra.at (by omega)
    obtain ⟨bb, ob, rfl, hbb, hcb⟩ := rb.at (by omega)
    have Hla := hid hla; have Hlb := hid hlb; have Hca := hid hca; have Hcb := hid hcb; have Hl := hid hl
    clear hla hlb hca hcb ra rb hl
    go_enter Try.func31, Try.ntmps31
    go_wp2_with fail
    obtain ⟨w1, hw1⟩ : ∃ w1, w1 = w.alloc (.cells #[.int .i64 n, .int .i64 d] 43) := ⟨_, rfl⟩
    have c0 : w1.cell? ⟨w.heap.size, 0, none⟩ = some (.int .i64 n) := by rw [hw1]; simp [go_sem]
    have c1 : w1.cell? ⟨w.heap.size, 1, none⟩ = some (.int .i64 d) := by rw [hw1]; simp [go_sem]
    have hz : w.heap.size < w1.heap.size := by rw [hw1]; simp
    have hB1 : Below w.heap.size w w1 := by rw [hw1]; exact (Below.refl _ _).alloc (Nat.le_refl _) _
    rw [← hw1]
    clear hw1
    have HB1 := hid hB1; clear hB1
    go_loopw [8] (fun i wr => ∃ k : Nat, k ≤ la ∧ i = .int .i64 k ∧ Hid (∀ j (hj : j < a.length) (hj' : j < b.length), j < k → fairX (a[j], b[j])) ∧ Below w1.heap.size w1 wr) (fun i _ => la - (intOf i).toNat)
    case atStart => exact ⟨0, by omega, rfl, fun j _ _ hj => by omega, Below.refl _ _⟩
    case round =>
      obtain ⟨k, hk, rfl, hF, hbr⟩ := hrel
      have Hbr := hid hbr; clear hbr
      have hzr := Hbr.out.size
      by_cases hkn : k < la
      · have hja : k < a.length := by rw [← Hla.out]; exact hkn
        have hjb : k < b.length := by rw [← Hlb.out]; exact hkn
        obtain ⟨c3, c4⟩ := Hca.out k hja
        obtain ⟨c5, c6⟩ := Hcb.out k hjb
        have hnx := HF_next hja hjb hF.out
        have hno := tl_80x (n := n) (d := d) hja hjb
        generalize a[k] = x at c3 c4 hnx hno
        generalize b[k] = y at c5 c6 hnx hno
        obtain ⟨x1, x2⟩ := x
        obtain ⟨y1, y2⟩ := y
        simp only at c3 c4 c5 c6
        have B0 := HB1.out.trans (Hbr.out.mono HB1.out.size)
        have d3 := (B0.cell (p := ⟨ba, oa + k * 2, none⟩) hba).trans c3
        have d4 := (B0.cell (p := ⟨ba, oa + (k * 2 + 1), none⟩) hba).trans c4
        have d5 := (B0.cell (p := ⟨bb, ob + k * 2, none⟩) hbb).trans c5
        have d6 := (B0.cell (p := ⟨bb, ob + (k * 2 + 1), none⟩) hbb).trans c6
        have HB0 := hid B0
        rw [← Nat.add_assoc] at d4 d6

        have Hnx := hid hnx; have Hno := hid hno
        have hba2 : ba < wr.heap.size := by omega
        have hbb2 : bb < wr.heap.size := by omega
        clear c3 c4 c5 c6 B0 hja hjb hnx hno hF
        by_cases hf : fairX ((x1, x2), (y1, y2))
        · have q := fairB_true hf
          go_wp2_with fail
          go_region_held3 (fun w' => w'.cell? ⟨ba, oa + k * 2, none⟩ = some (.int .i64 x1) ∧ w'.cell? ⟨ba, oa + k * 2 + 1, none⟩ = some (.int .i64 x2) ∧ w'.cell? ⟨bb, ob + k * 2, none⟩ = some (.int .i64 y1) ∧ w'.cell? ⟨bb, ob + k * 2 + 1, none⟩ = some (.int .i64 y2)) (first | exact ⟨d3, d4, d5, d6⟩ | exact ⟨e3, e4, e5, e6⟩) (first | (go_at_call 55; refine (good_any _ _ _ _ _).mono ?_; rintro e w3 ⟨rfl, hb3⟩; have e3 := (hb3.cell (p := ⟨ba, oa + k * 2, none⟩) (by simp; omega)).trans d3; have e4 := (hb3.cell (p := ⟨ba, oa + k * 2 + 1, none⟩) (by simp; omega)).trans d4; have e5 := (hb3.cell (p := ⟨bb, ob + k * 2, none⟩) (by simp; omega)).trans d5; have e6 := (hb3.cell (p := ⟨bb, ob + k * 2 + 1, none⟩) (by simp; omega)).trans d6))
          clear d3 d4 d5 d6 e3 e4 e5 e6
          have Hb4 := hid (Hbr.out.trans ((below_drewN (Below.refl _ _) 1).trans (hb3.mono (Nat.le_refl _)) |>.mono Hbr.out.size))
          go_wp2_with fail
          go_roundw
          case rel => exact ⟨k + 1, by omega, by go_num, Hnx.out hf, Hb4.out⟩
          case measure => simp [intOf]; omega
        · have q := fairB_false hf
          have Hn12 := hid (Hno.out hf)
          go_wp2_with fail
          go_region_held3 (fun w' => w'.cell? ⟨ba, oa + k * 2, none⟩ = some (.int .i64 x1) ∧ w'.cell? ⟨ba, oa + k * 2 + 1, none⟩ = some (.int .i64 x2) ∧ w'.cell? ⟨bb, ob + k * 2, none⟩ = some (.int .i64 y1) ∧ w'.cell? ⟨bb, ob + k * 2 + 1, none⟩ = some (.int .i64 y2)) (first | exact ⟨d3, d4, d5, d6⟩ | exact ⟨e3, e4, e5, e6⟩) (first | (go_at_call 55; refine (good_any _ _ _ _ _).mono ?_; rintro e w3 ⟨rfl, hb3⟩; have e3 := (hb3.cell (p := ⟨ba, oa + k * 2, none⟩) (by simp; omega)).trans d3; have e4 := (hb3.cell (p := ⟨ba, oa + k * 2 + 1, none⟩) (by simp; omega)).trans d4; have e5 := (hb3.cell (p := ⟨bb, ob + k * 2, none⟩) (by simp; omega)).trans d5; have e6 := (hb3.cell (p := ⟨bb, ob + k * 2 + 1, none⟩) (by simp; omega)).trans d6))
          clear d3 d4 d5 d6 e3 e4 e5 e6
          have Hb4 := hid (HB0.out.trans ((below_drewN (Below.refl _ _) 1).trans (hb3.mono (Nat.le_refl _)) |>.mono HB0.out.size))
          go_wp2_with fail
          go_ret2
          exact ⟨by rw [Hn12.out.1, Hn12.out.2]; rfl, Hb4.out⟩
      · obtain rfl : la = k := by omega
        have hF2 : ∀ j (hj : j < a.length) (hj' : j < b.length), fairX (a[j], b[j]) := fun j hj hj' => hF.out j hj hj' (by rw [Hla.out]; exact hj)
        have Hsh := hid (show a.length = b.length ∧ 1 ≤ a.length ∧ a.length ≤ 12 from ⟨Hl.out, by rw [← Hla.out]; omega, by rw [← Hla.out]; omega⟩)
        have d7 := (Hbr.out.cell (p := ⟨w.heap.size, 0, none⟩) hz).trans c0
        have d8 := (Hbr.out.cell (p := ⟨w.heap.size, 1, none⟩) hz).trans c1
        have HB0 := hid (HB1.out.trans (Hbr.out.mono HB1.out.size))
        have HF2 := hid hF2
        clear hF2 hF
        have hzw : w.heap.size < wr.heap.size := by omega
        by_cases hd : 1 ≤ d ∧ d ≤ 10000 ∧ 0 ≤ n ∧ n ≤ d
        · have hdt : decide (1 ≤ d ∧ d ≤ 10000 ∧ 0 ≤ n ∧ n ≤ d) = true := decide_eq_true hd
          have hlm := fun W => limited_any n d W
          rw [hdt] at hlm
          obtain ⟨n', rfl⟩ : ∃ n' : Nat, n = n' := ⟨n.toNat, by omega⟩
          obtain ⟨d', rfl⟩ : ∃ d' : Nat, d = d' := ⟨d.toNat, by omega⟩
          have Ht := hid (tl_0 (n := n') (d := d') Hsh.out HF2.out (by omega))
          obtain ⟨hd1, hd2⟩ : 1 ≤ d' ∧ d' ≤ 10000 := by omega
          have hn2 : n' ≤ d' := by omega
          have Hlm := hid hlm
          clear hd hdt hlm
          go_wp2_with fail
          refine (Hlm.out _).mono ?_
          rintro e w4 ⟨rfl, hb4⟩
          have Hb4 := hid (Hbr.out.trans (hb4.mono Hbr.out.size)); clear hb4
          go_wp2_with fail
          go_loopw [9, 10] (fun g i w5 => ∃ (k : Nat), k ≤ la ∧ i = .int .i64 k ∧ g = .bool (((a.zip b).take k).any (low2 n' d')) ∧ Below w1.heap.size w1 w5) (fun _ i _ => la - (intOf i).toNat)
          case atStart => exact ⟨0, by omega, rfl, rfl, Hb4.out⟩
          case round =>
            obtain ⟨k, hk, rfl, rfl, hbr2⟩ := hrel
            have Hb2 := hid hbr2; clear hbr2
            have hz5 := Hb2.out.size
            have f7 := (Hb2.out.cell (p := ⟨w.heap.size, 0, none⟩) hz).trans c0
            have f8 := (Hb2.out.cell (p := ⟨w.heap.size, 1, none⟩) hz).trans c1
            clear d7 d8
            by_cases hkn : k < la
            · have hja : k < a.length := by rw [← Hla.out]; exact hkn
              have hjb : k < b.length := by rw [← Hlb.out]; exact hkn
              obtain ⟨c3, c4⟩ := Hca.out k hja
              obtain ⟨c5, c6⟩ := Hcb.out k hjb
              have hfx := HF2.out k hja hjb
              have hst := any_step (n := n') (d := d') hja hjb
              generalize a[k] = x at c3 c4 hfx hst
              generalize b[k] = y at c5 c6 hfx hst
              obtain ⟨x1, x2⟩ := x
              obtain ⟨y1, y2⟩ := y
              simp only at c3 c4 c5 c6
              have B0 := HB1.out.trans (Hb2.out.mono HB1.out.size)
              have d3 := (B0.cell (p := ⟨ba, oa + k * 2, none⟩) hba).trans c3
              have d4 := (B0.cell (p := ⟨ba, oa + (k * 2 + 1), none⟩) hba).trans c4
              have d5 := (B0.cell (p := ⟨bb, ob + k * 2, none⟩) hbb).trans c5
              have d6 := (B0.cell (p := ⟨bb, ob + (k * 2 + 1), none⟩) hbb).trans c6
              have HB0 := hid B0
              rw [← Nat.add_assoc] at d4 d6

              have hfi := fun W => ref_fisher_at (a1 := x1) (a2 := x2) (b1 := y1) (b2 := y2) hfx W
              have hP := nX_le hfx
              have hQ := dX_le hfx
              have hlo : low2 n' d' ((x1, x2), (y1, y2)) = decide (nX ((x1, x2), (y1, y2)) * d' ≤ n' * dX ((x1, x2), (y1, y2))) := rfl
              generalize nX ((x1, x2), y1, y2) = P at hfi hP hlo
              generalize dX ((x1, x2), y1, y2) = Q at hfi hQ hlo
              have hab := fun W => atMost_any P Q n' d' hP hQ (by omega) hd2 W
              have hba2 : ba < wr.heap.size := by omega
              have hbb2 : bb < wr.heap.size := by omega
              have hzw2 : w.heap.size < wr.heap.size := by omega
              clear hP hQ hfx c3 c4 c5 c6 B0
              have Hfi := hid hfi
              clear hfi
              generalize decide (P * d' ≤ n' * Q) = lo at hab hlo
              rw [hlo] at hst
              clear hlo
              have Hab := hid hab; have Hst := hid hst
              clear hab hst
              generalize ((a.zip b).take k).any (low2 n' d') = g at Hst
              have hy1 : wr.heap.size ≠ ba := by omega
              have hy2 : wr.heap.size ≠ bb := by omega
              cases g
              · go_wp2_with fail
                go_region_held3 (fun w' => w'.cell? ⟨ba, oa + k * 2, none⟩ = some (.int .i64 x1) ∧ w'.cell? ⟨ba, oa + k * 2 + 1, none⟩ = some (.int .i64 x2) ∧ w'.cell? ⟨bb, ob + k * 2, none⟩ = some (.int .i64 y1) ∧ w'.cell? ⟨bb, ob + k * 2 + 1, none⟩ = some (.int .i64 y2)) (first | exact ⟨(by first | exact d3 | exact e3 | exact (World.cell?_alloc_lt wr _ ⟨ba, _, none⟩ hba2).trans d3 | exact (World.cell?_alloc_lt w3 _ ⟨ba, _, none⟩ hx1).trans e3 | exact cell_set_far e3 (.inl hy1) | exact cell_set_far (cell_set_far e3 (.inl hy1)) (.inl hy1)), (by first | exact d4 | exact e4 | exact (World.cell?_alloc_lt wr _ ⟨ba, _, none⟩ hba2).trans d4 | exact (World.cell?_alloc_lt w3 _ ⟨ba, _, none⟩ hx1).trans e4 | exact cell_set_far e4 (.inl hy1) | exact cell_set_far (cell_set_far e4 (.inl hy1)) (.inl hy1)), (by first | exact d5 | exact e5 | exact (World.cell?_alloc_lt wr _ ⟨bb, _, none⟩ hbb2).trans d5 | exact (World.cell?_alloc_lt w3 _ ⟨bb, _, none⟩ hx2).trans e5 | exact cell_set_far e5 (.inl hy2) | exact cell_set_far (cell_set_far e5 (.inl hy2)) (.inl hy2)), (by first | exact d6 | exact e6 | exact (World.cell?_alloc_lt wr _ ⟨bb, _, none⟩ hbb2).trans d6 | exact (World.cell?_alloc_lt w3 _ ⟨bb, _, none⟩ hx2).trans e6 | exact cell_set_far e6 (.inl hy2) | exact cell_set_far (cell_set_far e6 (.inl hy2)) (.inl hy2))⟩) (first | (go_at_call 22; refine (Hfi.out _).mono ?_; rintro e w3 ⟨rfl, hb3⟩; have e3 := (hb3.cell (p := ⟨ba, oa + k * 2, none⟩) (by simp; omega)).trans (by first | exact d3 | exact (World.cell?_alloc_lt wr _ ⟨ba, _, none⟩ hba2).trans d3); have e4 := (hb3.cell (p := ⟨ba, oa + k * 2 + 1, none⟩) (by simp; omega)).trans (by first | exact d4 | exact (World.cell?_alloc_lt wr _ ⟨ba, _, none⟩ hba2).trans d4); have e5 := (hb3.cell (p := ⟨bb, ob + k * 2, none⟩) (by simp; omega)).trans (by first | exact d5 | exact (World.cell?_alloc_lt wr _ ⟨bb, _, none⟩ hbb2).trans d5); have e6 := (hb3.cell (p := ⟨bb, ob + k * 2 + 1, none⟩) (by simp; omega)).trans (by first | exact d6 | exact (World.cell?_alloc_lt wr _ ⟨bb, _, none⟩ hbb2).trans d6); have hz3 : wr.heap.size ≤ w3.heap.size := (by have := hb3.size; simp at this; omega); have hx1 : ba < w3.heap.size := (by omega); have hx2 : bb < w3.heap.size := (by omega); first | (have y0 : w3.cell? ⟨wr.heap.size, 0, none⟩ = some (.int .i64 0) := (hb3.cell (p := ⟨wr.heap.size, 0, none⟩) (by simp)).trans (by simp [go_sem]); have y1 : w3.cell? ⟨wr.heap.size, 1, none⟩ = some (.int .i64 0) := (hb3.cell (p := ⟨wr.heap.size, 1, none⟩) (by simp)).trans (by simp [go_sem]); have y2 : w3.frozen? ⟨wr.heap.size, 0, none⟩ = false := (hb3.frozen (p := ⟨wr.heap.size, 0, none⟩) (by simp)).trans (by simp [go_sem]); have y3 : w3.frozen? ⟨wr.heap.size, 1, none⟩ = false := (hb3.frozen (p := ⟨wr.heap.size, 1, none⟩) (by simp)).trans (by simp [go_sem]); have y4 : wr.heap.size < w3.heap.size := (by have := hb3.size; simp at this; omega)) | skip))
                · obtain ⟨W, hW⟩ : ∃ W, W = w3.alloc (.cells #[.int .i64 P, .int .i64 Q] 43) := ⟨_, rfl⟩
                  have p0 : W.cell? ⟨w3.heap.size, 0, none⟩ = some (.int .i64 P) := by rw [hW]; simp [go_sem]
                  have p1 : W.cell? ⟨w3.heap.size, 1, none⟩ = some (.int .i64 Q) := by rw [hW]; simp [go_sem]
                  have p2 : W.cell? ⟨w.heap.size, 0, none⟩ = some (.int .i64 n') := by rw [hW]; exact (World.cell?_alloc_lt w3 _ ⟨w.heap.size, _, none⟩ (show w.heap.size < w3.heap.size by omega)).trans ((hb3.cell (p := ⟨w.heap.size, 0, none⟩) hzw2).trans f7)
                  have p3 : W.cell? ⟨w.heap.size, 1, none⟩ = some (.int .i64 d') := by rw [hW]; exact (World.cell?_alloc_lt w3 _ ⟨w.heap.size, _, none⟩ (show w.heap.size < w3.heap.size by omega)).trans ((hb3.cell (p := ⟨w.heap.size, 1, none⟩) hzw2).trans f8)
                  have hB6 : Below w1.heap.size w1 W := by rw [hW]; exact (Hb2.out.trans ((below_drewN (Below.refl _ _) 1).trans (hb3.mono (Nat.le_refl _)) |>.mono Hb2.out.size)).alloc (by omega) _
                  have HB6 := hid hB6
                  rw [← hW]
                  clear hW hB6
                  go_wp2_with fail
                  refine (Hab.out _).mono ?_
                  rintro e w6 ⟨rfl, hb6⟩
                  have HB7 := hid (HB6.out.trans (hb6.mono HB6.out.size))
                  go_wp2_with fail
                  go_roundw
                  case rel => exact ⟨k + 1, by omega, by go_num, by rw [Hst.out]; rfl, HB7.out⟩
                  case measure => simp [intOf]; omega
                · obtain ⟨W, hW⟩ : ∃ W, W = (w3.setCell ⟨wr.heap.size, 0, none⟩ (.int .i64 P)).setCell ⟨wr.heap.size, 1, none⟩ (.int .i64 Q) := ⟨_, rfl⟩
                  have p0 : W.cell? ⟨wr.heap.size, 0, none⟩ = some (.int .i64 P) := by rw [hW]; simp [go_sem, y0, y1]
                  have p1 : W.cell? ⟨wr.heap.size, 1, none⟩ = some (.int .i64 Q) := by rw [hW]; simp [go_sem, y0, y1]
                  have p2 : W.cell? ⟨w.heap.size, 0, none⟩ = some (.int .i64 n') := by rw [hW]; exact cell_set_far (cell_set_far ((hb3.cell (p := ⟨w.heap.size, 0, none⟩) (by simp; omega)).trans ((World.cell?_alloc_lt wr _ ⟨w.heap.size, _, none⟩ hzw2).trans f7)) (.inl (by omega))) (.inl (by omega))
                  have p3 : W.cell? ⟨w.heap.size, 1, none⟩ = some (.int .i64 d') := by rw [hW]; exact cell_set_far (cell_set_far ((hb3.cell (p := ⟨w.heap.size, 1, none⟩) (by simp; omega)).trans ((World.cell?_alloc_lt wr _ ⟨w.heap.size, _, none⟩ hzw2).trans f8)) (.inl (by omega))) (.inl (by omega))
                  have hB6 : Below w1.heap.size w1 W := by rw [hW]; exact ((Hb2.out.trans (((Below.refl _ _).alloc (Nat.le_refl _) _).trans (below_drewN (Below.refl _ _) 1 |>.trans hb3 |>.mono (by simp)) |>.mono Hb2.out.size)).setCell hz5 _).setCell hz5 _
                  have HB6 := hid hB6
                  rw [← hW]
                  clear hW hB6
                  go_wp2_with fail
                  refine (Hab.out _).mono ?_
                  rintro e w6 ⟨rfl, hb6⟩
                  have HB7 := hid (HB6.out.trans (hb6.mono HB6.out.size))
                  go_wp2_with fail
                  go_roundw
                  case rel => exact ⟨k + 1, by omega, by go_num, by rw [Hst.out]; rfl, HB7.out⟩
                  case measure => simp [intOf]; omega
              · go_wp2_with fail
                go_region_held3 (fun w' => w'.cell? ⟨ba, oa + k * 2, none⟩ = some (.int .i64 x1) ∧ w'.cell? ⟨ba, oa + k * 2 + 1, none⟩ = some (.int .i64 x2) ∧ w'.cell? ⟨bb, ob + k * 2, none⟩ = some (.int .i64 y1) ∧ w'.cell? ⟨bb, ob + k * 2 + 1, none⟩ = some (.int .i64 y2)) (first | exact ⟨(by first | exact d3 | exact e3 | exact (World.cell?_alloc_lt wr _ ⟨ba, _, none⟩ hba2).trans d3 | exact (World.cell?_alloc_lt w3 _ ⟨ba, _, none⟩ hx1).trans e3 | exact cell_set_far e3 (.inl hy1) | exact cell_set_far (cell_set_far e3 (.inl hy1)) (.inl hy1)), (by first | exact d4 | exact e4 | exact (World.cell?_alloc_lt wr _ ⟨ba, _, none⟩ hba2).trans d4 | exact (World.cell?_alloc_lt w3 _ ⟨ba, _, none⟩ hx1).trans e4 | exact cell_set_far e4 (.inl hy1) | exact cell_set_far (cell_set_far e4 (.inl hy1)) (.inl hy1)), (by first | exact d5 | exact e5 | exact (World.cell?_alloc_lt wr _ ⟨bb, _, none⟩ hbb2).trans d5 | exact (World.cell?_alloc_lt w3 _ ⟨bb, _, none⟩ hx2).trans e5 | exact cell_set_far e5 (.inl hy2) | exact cell_set_far (cell_set_far e5 (.inl hy2)) (.inl hy2)), (by first | exact d6 | exact e6 | exact (World.cell?_alloc_lt wr _ ⟨bb, _, none⟩ hbb2).trans d6 | exact (World.cell?_alloc_lt w3 _ ⟨bb, _, none⟩ hx2).trans e6 | exact cell_set_far e6 (.inl hy2) | exact cell_set_far (cell_set_far e6 (.inl hy2)) (.inl hy2))⟩) (first | (go_at_call 22; refine (Hfi.out _).mono ?_; rintro e w3 ⟨rfl, hb3⟩; have e3 := (hb3.cell (p := ⟨ba, oa + k * 2, none⟩) (by simp; omega)).trans (by first | exact d3 | exact (World.cell?_alloc_lt wr _ ⟨ba, _, none⟩ hba2).trans d3); have e4 := (hb3.cell (p := ⟨ba, oa + k * 2 + 1, none⟩) (by simp; omega)).trans (by first | exact d4 | exact (World.cell?_alloc_lt wr _ ⟨ba, _, none⟩ hba2).trans d4); have e5 := (hb3.cell (p := ⟨bb, ob + k * 2, none⟩) (by simp; omega)).trans (by first | exact d5 | exact (World.cell?_alloc_lt wr _ ⟨bb, _, none⟩ hbb2).trans d5); have e6 := (hb3.cell (p := ⟨bb, ob + k * 2 + 1, none⟩) (by simp; omega)).trans (by first | exact d6 | exact (World.cell?_alloc_lt wr _ ⟨bb, _, none⟩ hbb2).trans d6); have hz3 : wr.heap.size ≤ w3.heap.size := (by have := hb3.size; simp at this; omega); have hx1 : ba < w3.heap.size := (by omega); have hx2 : bb < w3.heap.size := (by omega); first | (have y0 : w3.cell? ⟨wr.heap.size, 0, none⟩ = some (.int .i64 0) := (hb3.cell (p := ⟨wr.heap.size, 0, none⟩) (by simp)).trans (by simp [go_sem]); have y1 : w3.cell? ⟨wr.heap.size, 1, none⟩ = some (.int .i64 0) := (hb3.cell (p := ⟨wr.heap.size, 1, none⟩) (by simp)).trans (by simp [go_sem]); have y2 : w3.frozen? ⟨wr.heap.size, 0, none⟩ = false := (hb3.frozen (p := ⟨wr.heap.size, 0, none⟩) (by simp)).trans (by simp [go_sem]); have y3 : w3.frozen? ⟨wr.heap.size, 1, none⟩ = false := (hb3.frozen (p := ⟨wr.heap.size, 1, none⟩) (by simp)).trans (by simp [go_sem]); have y4 : wr.heap.size < w3.heap.size := (by have := hb3.size; simp at this; omega)) | skip))
                · obtain ⟨W, hW⟩ : ∃ W, W = w3.alloc (.cells #[.int .i64 P, .int .i64 Q] 43) := ⟨_, rfl⟩
                  have p0 : W.cell? ⟨w3.heap.size, 0, none⟩ = some (.int .i64 P) := by rw [hW]; simp [go_sem]
                  have p1 : W.cell? ⟨w3.heap.size, 1, none⟩ = some (.int .i64 Q) := by rw [hW]; simp [go_sem]
                  have p2 : W.cell? ⟨w.heap.size, 0, none⟩ = some (.int .i64 n') := by rw [hW]; exact (World.cell?_alloc_lt w3 _ ⟨w.heap.size, _, none⟩ (show w.heap.size < w3.heap.size by omega)).trans ((hb3.cell (p := ⟨w.heap.size, 0, none⟩) hzw2).trans f7)
                  have p3 : W.cell? ⟨w.heap.size, 1, none⟩ = some (.int .i64 d') := by rw [hW]; exact (World.cell?_alloc_lt w3 _ ⟨w.heap.size, _, none⟩ (show w.heap.size < w3.heap.size by omega)).trans ((hb3.cell (p := ⟨w.heap.size, 1, none⟩) hzw2).trans f8)
                  have hB6 : Below w1.heap.size w1 W := by rw [hW]; exact (Hb2.out.trans ((below_drewN (Below.refl _ _) 1).trans (hb3.mono (Nat.le_refl _)) |>.mono Hb2.out.size)).alloc (by omega) _
                  have HB6 := hid hB6
                  rw [← hW]
                  clear hW hB6
                  go_wp2_with fail
                  go_roundw
                  case rel => exact ⟨k + 1, by omega, by go_num, by rw [Hst.out]; rfl, HB6.out⟩
                  case measure => simp [intOf]; omega
                · obtain ⟨W, hW⟩ : ∃ W, W = (w3.setCell ⟨wr.heap.size, 0, none⟩ (.int .i64 P)).setCell ⟨wr.heap.size, 1, none⟩ (.int .i64 Q) := ⟨_, rfl⟩
                  have p0 : W.cell? ⟨wr.heap.size, 0, none⟩ = some (.int .i64 P) := by rw [hW]; simp [go_sem, y0, y1]
                  have p1 : W.cell? ⟨wr.heap.size, 1, none⟩ = some (.int .i64 Q) := by rw [hW]; simp [go_sem, y0, y1]
                  have p2 : W.cell? ⟨w.heap.size, 0, none⟩ = some (.int .i64 n') := by rw [hW]; exact cell_set_far (cell_set_far ((hb3.cell (p := ⟨w.heap.size, 0, none⟩) (by simp; omega)).trans ((World.cell?_alloc_lt wr _ ⟨w.heap.size, _, none⟩ hzw2).trans f7)) (.inl (by omega))) (.inl (by omega))
                  have p3 : W.cell? ⟨w.heap.size, 1, none⟩ = some (.int .i64 d') := by rw [hW]; exact cell_set_far (cell_set_far ((hb3.cell (p := ⟨w.heap.size, 1, none⟩) (by simp; omega)).trans ((World.cell?_alloc_lt wr _ ⟨w.heap.size, _, none⟩ hzw2).trans f8)) (.inl (by omega))) (.inl (by omega))
                  have hB6 : Below w1.heap.size w1 W := by rw [hW]; exact ((Hb2.out.trans (((Below.refl _ _).alloc (Nat.le_refl _) _).trans (below_drewN (Below.refl _ _) 1 |>.trans hb3 |>.mono (by simp)) |>.mono Hb2.out.size)).setCell hz5 _).setCell hz5 _
                  have HB6 := hid hB6
                  rw [← hW]
                  clear hW hB6
                  go_wp2_with fail
                  go_roundw
                  case rel => exact ⟨k + 1, by omega, by go_num, by rw [Hst.out]; rfl, HB6.out⟩
                  case measure => simp [intOf]; omega
            · obtain rfl : la = k := by omega
              have hfin : ((a.zip b).take la).any (low2 n' d') = (a.zip b).any (low2 n' d') := by rw [List.take_of_length_le (by simp only [List.length_zip]; have := Hla.out; omega)]
              rw [hfin]
              clear hfin
              generalize (a.zip b).any (low2 n' d') = g at Ht
              have HB2 := hid (HB1.out.trans (Hb2.out.mono HB1.out.size))
              go_wp2_with fail
              go_ret2
              exact ⟨by rw [Ht.out.1, Ht.out.2]; rfl, HB2.out⟩
        · have hdf : decide (1 ≤ d ∧ d ≤ 10000 ∧ 0 ≤ n ∧ n ≤ d) = false := decide_eq_false hd
          have Ht := hid (tl_1 (n := n) (d := d) Hsh.out HF2.out hd)
          have hlm := fun W => limited_any n d W
          rw [hdf] at hlm
          have Hlm := hid hlm
          clear hd hdf hlm
          go_wp2_with fail
          refine (Hlm.out _).mono ?_
          rintro e w4 ⟨rfl, hb4⟩
          have Hb4 := hid (HB0.out.trans (hb4.mono HB0.out.size)); clear hb4
          go_wp2_with fail
          go_ret2
          exact ⟨by rw [Ht.out.1, Ht.out.2]; rfl, Hb4.out⟩
  · have Ht := hid (tl_80 (n := n) (d := d) hshape)
    have hB := (Below.refl w.heap.size w).alloc (Nat.le_refl _) (.cells #[.int .i64 n, .int .i64 d] 43)
    by_cases hl : a.length = b.length
    · by_cases h1 : b.length < 1
      · obtain ⟨la, hla⟩ : ∃ la, la = b.length := ⟨_, rfl⟩
        rw [hl, ← hla]
        rw [← hla] at h1
        clear hshape hl hla ra rb
        go_enter Try.func31, Try.ntmps31
        go_wp2_with fail
        go_ret2
        exact ⟨by rw [Ht.out.1, Ht.out.2]; rfl, hB⟩
      · have h2 : 12 < b.length := by omega
        obtain ⟨la, hla⟩ : ∃ la, la = b.length := ⟨_, rfl⟩
        rw [hl, ← hla]
        rw [← hla] at h1 h2
        clear hshape hl hla ra rb
        go_enter Try.func31, Try.ntmps31
        go_wp2_with fail
        go_ret2
        exact ⟨by rw [Ht.out.1, Ht.out.2]; rfl, hB⟩
    · have hne : ¬ (a.length : Int) = b.length := by omega
      clear hshape hl
      go_enter Try.func31, Try.ntmps31
      go_wp2_with fail
      go_ret2
      exact ⟨by rw [Ht.out.1, Ht.out.2]; rfl, hB⟩
end Go.Proofs.Ytoljnbbhoeloeaa
