/- WALK: copies.Apart. -/
import Derived.Test.YtoljnbbhoeloeaaTellL
import Derived.Test.YtoljnbbhoeloeaaAbove
namespace Go.Proofs.Ytoljnbbhoeloeaa
open Go.RowKit
theorem HF_next {a b : List (Int × Int)} {k : Nat} (h1 : k < a.length) (h2 : k < b.length) (hF : ∀ j (hj : j < a.length) (hj' : j < b.length), j < k → fairX (a[j], b[j])) : fairX (a[k], b[k]) → ∀ j (hj : j < a.length) (hj' : j < b.length), j < k + 1 → fairX (a[j], b[j]) := fun h j hj hj' hjk => by
  rcases Nat.lt_or_ge j k with h' | h'
  · exact hF j hj hj' h'
  · obtain rfl : j = k := by omega
    exact h
theorem LF_next {a b : List (Int × Int)} {k n d : Nat} (h1 : k < a.length) (h2 : k < b.length) (hF : ∀ j (hj : j < a.length) (hj' : j < b.length), j < k → low2 n d (a[j], b[j]) = false) : low2 n d (a[k], b[k]) = false → ∀ j (hj : j < a.length) (hj' : j < b.length), j < k + 1 → low2 n d (a[j], b[j]) = false := fun h j hj hj' hjk => by
  rcases Nat.lt_or_ge j k with h' | h'
  · exact hF j hj hj' h'
  · obtain rfl : j = k := by omega
    exact h
set_option maxRecDepth 100000 in
set_option maxHeartbeats 2000000 in
theorem apart_any (a b : List (Int × Int)) (n d : Int) (Aa Ab : Option Addr) (ca cb : Nat) (w : World) (ra : Rp w w.heap.size Aa a) (rb : Rp w w.heap.size Ab b) :
    Calls Try.prog 30 #[.slice Aa a.length ca, .slice Ab b.length cb, .agg #[.int .i64 n, .int .i64 d]] w fun e w' => e = .returned (.tuple #[.bool (tlIs a b n d), .int .i64 (tlErr a b n d)]) ∧ Below w.heap.size w w' := by
  by_cases hshape : a.length = b.length ∧ 1 ≤ a.length ∧ a.length ≤ 12
  · obtain ⟨hl, hl1, hl2⟩ := hshape
    obtain ⟨la, hla⟩ : ∃ la, la = a.length := ⟨_, rfl⟩
    have hlb : la = b.length := hla.trans hl
    rw [← hla, ← hlb]
    rw [← hla] at hl1 hl2
    obtain ⟨ba, oa, rfl, hba, hca⟩ := ra.at (by omega)
    obtain ⟨bb, ob, rfl, hbb, hcb⟩ := rb.at (by omega)
    have Hla := hid hla; have Hlb := hid hlb; have Hca := hid hca; have Hcb := hid hcb; have Hl := hid hl
    clear hla hlb hca hcb ra rb hl
    have hdd : decide ((1 : Int) ≤ la ∧ (la : Int) ≤ 12) = true := decide_eq_true (by omega)
    go_enter Try.func30, Try.ntmps30
    go_wp2_with (go_at_call 61; refine (within_any _ _ _ _).mono ?_; rintro e w' ⟨rfl, rfl⟩)
    obtain ⟨w1, hw1⟩ : ∃ w1, w1 = w.alloc (.cells #[.int .i64 n, .int .i64 d] 40) := ⟨_, rfl⟩
    have c0 : w1.cell? ⟨w.heap.size, 0, none⟩ = some (.int .i64 n) := by rw [hw1]; simp [go_sem]
    have c1 : w1.cell? ⟨w.heap.size, 1, none⟩ = some (.int .i64 d) := by rw [hw1]; simp [go_sem]
    have hz : w.heap.size < w1.heap.size := by rw [hw1]; simp
    have hB1 : Below w.heap.size w w1 := by rw [hw1]; exact (Below.refl _ _).alloc (Nat.le_refl _) _
    rw [← hw1]
    clear hw1
    have HB1 := hid hB1; clear hB1
    go_loopw [23] (fun i wr => ∃ k : Nat, k ≤ la ∧ i = .int .i64 k ∧ Hid (∀ j (hj : j < a.length) (hj' : j < b.length), j < k → fairX (a[j], b[j])) ∧ Below w1.heap.size w1 wr) (fun i _ => la - (intOf i).toNat)
    case atStart => exact ⟨0, by omega, rfl, fun j _ _ hj => by omega, Below.refl _ _⟩
    case round =>
      obtain ⟨k, hk, rfl, hF, hbr⟩ := hrel
      have Hbr := hid hbr; clear hbr
      have hzr := Hbr.out.size
      by_cases hkn : k < la
      · have hja : k < a.length := by rw [← Hla.out]; exact hkn
        have hjb : k < b.length := by rw [← Hlb.out]; exact hkn
        obtain ⟨c3, c4⟩ := Hca.out k hja
        obtain ⟨c5, c6⟩ := Hcb.out k hjb
        have hnx := HF_next hja hjb hF.out
        have hno := tl_80x (n := n) (d := d) hja hjb
        generalize a[k] = x at c3 c4 hnx hno
        generalize b[k] = y at c5 c6 hnx hno
        obtain ⟨x1, x2⟩ := x
        obtain ⟨y1, y2⟩ := y
        simp only at c3 c4 c5 c6
        have B0 := HB1.out.trans (Hbr.out.mono HB1.out.size)
        have d3 := (B0.cell (p := ⟨ba, oa + k * 2, none⟩) hba).trans c3
        have d4 := (B0.cell (p := ⟨ba, oa + (k * 2 + 1), none⟩) hba).trans c4
        have d5 := (B0.cell (p := ⟨bb, ob + k * 2, none⟩) hbb).trans c5
        have d6 := (B0.cell (p := ⟨bb, ob + (k * 2 + 1), none⟩) hbb).trans c6
        have HB0 := hid B0
        rw [← Nat.add_assoc] at d4 d6
        have Hnx := hid hnx; have Hno := hid hno
        have hba2 : ba < wr.heap.size := by omega
        have hbb2 : bb < wr.heap.size := by omega
        clear c3 c4 c5 c6 B0 hja hjb hnx hno hF
        by_cases hf : fairX ((x1, x2), (y1, y2))
        · have q := fairB_true hf
          go_wp2_with fail
          go_region_held3 (fun w' => w'.cell? ⟨ba, oa + k * 2, none⟩ = some (.int .i64 x1) ∧ w'.cell? ⟨ba, oa + k * 2 + 1, none⟩ = some (.int .i64 x2) ∧ w'.cell? ⟨bb, ob + k * 2, none⟩ = some (.int .i64 y1) ∧ w'.cell? ⟨bb, ob + k * 2 + 1, none⟩ = some (.int .i64 y2)) (first | exact ⟨d3, d4, d5, d6⟩ | exact ⟨e3, e4, e5, e6⟩)
            (first | (go_at_call 53; refine (fair_any _ _ _ _ _).mono ?_; rintro e w3 ⟨rfl, hb3⟩; have e3 := (hb3.cell (p := ⟨ba, oa + k * 2, none⟩) (by simp; omega)).trans d3; have e4 := (hb3.cell (p := ⟨ba, oa + k * 2 + 1, none⟩) (by simp; omega)).trans d4; have e5 := (hb3.cell (p := ⟨bb, ob + k * 2, none⟩) (by simp; omega)).trans d5; have e6 := (hb3.cell (p := ⟨bb, ob + k * 2 + 1, none⟩) (by simp; omega)).trans d6))
          clear d3 d4 d5 d6 e3 e4 e5 e6
          have Hb4 := hid (Hbr.out.trans ((below_drewN (Below.refl _ _) 1).trans (hb3.mono (Nat.le_refl _)) |>.mono Hbr.out.size))
          go_wp2_with fail
          go_roundw
          case rel => exact ⟨k + 1, by omega, by go_num, Hnx.out hf, Hb4.out⟩
          case measure => simp [intOf]; omega
        · have q := fairB_false hf
          have Hn12 := hid (Hno.out hf)
          go_wp2_with fail
          go_region_held3 (fun w' => w'.cell? ⟨ba, oa + k * 2, none⟩ = some (.int .i64 x1) ∧ w'.cell? ⟨ba, oa + k * 2 + 1, none⟩ = some (.int .i64 x2) ∧ w'.cell? ⟨bb, ob + k * 2, none⟩ = some (.int .i64 y1) ∧ w'.cell? ⟨bb, ob + k * 2 + 1, none⟩ = some (.int .i64 y2)) (first | exact ⟨d3, d4, d5, d6⟩ | exact ⟨e3, e4, e5, e6⟩)
            (first | (go_at_call 53; refine (fair_any _ _ _ _ _).mono ?_; rintro e w3 ⟨rfl, hb3⟩; have e3 := (hb3.cell (p := ⟨ba, oa + k * 2, none⟩) (by simp; omega)).trans d3; have e4 := (hb3.cell (p := ⟨ba, oa + k * 2 + 1, none⟩) (by simp; omega)).trans d4; have e5 := (hb3.cell (p := ⟨bb, ob + k * 2, none⟩) (by simp; omega)).trans d5; have e6 := (hb3.cell (p := ⟨bb, ob + k * 2 + 1, none⟩) (by simp; omega)).trans d6))
          clear d3 d4 d5 d6 e3 e4 e5 e6
          have Hb4 := hid (HB0.out.trans ((below_drewN (Below.refl _ _) 1).trans (hb3.mono (Nat.le_refl _)) |>.mono HB0.out.size))
          go_wp2_with fail
          go_ret2
          exact ⟨by rw [Hn12.out.1, Hn12.out.2]; rfl, Hb4.out⟩
      · obtain rfl : la = k := by omega
        have hF2 : ∀ j (hj : j < a.length) (hj' : j < b.length), fairX (a[j], b[j]) := fun j hj hj' => hF.out j hj hj' (by rw [Hla.out]; exact hj)
        have Hsh := hid (show a.length = b.length ∧ 1 ≤ a.length ∧ a.length ≤ 12 from ⟨Hl.out, by rw [← Hla.out]; omega, by rw [← Hla.out]; omega⟩)
        have d7 := (Hbr.out.cell (p := ⟨w.heap.size, 0, none⟩) hz).trans c0
        have d8 := (Hbr.out.cell (p := ⟨w.heap.size, 1, none⟩) hz).trans c1
        have HB0 := hid (HB1.out.trans (Hbr.out.mono HB1.out.size))
        have HF2 := hid hF2
        clear hF2 hF hdd
        have hzw : w.heap.size < wr.heap.size := by omega
        by_cases hd : 1 ≤ d ∧ d ≤ 10000
        · have hdt : decide (1 ≤ d ∧ d ≤ 10000) = true := decide_eq_true hd
          by_cases hn : 0 ≤ n ∧ n ≤ d
          · have hnt : decide (0 ≤ n ∧ n ≤ d) = true := decide_eq_true hn
            obtain ⟨n', rfl⟩ : ∃ n' : Nat, n = n' := ⟨n.toNat, by omega⟩
            obtain ⟨d', rfl⟩ : ∃ d' : Nat, d = d' := ⟨d.toNat, by omega⟩
            have Ht := hid (tl_0 (n := n') (d := d') Hsh.out HF2.out (by omega))
            obtain ⟨hd1, hd2⟩ : 1 ≤ d' ∧ d' ≤ 10000 := by omega
            have hn2 : n' ≤ d' := by omega
            clear hd hn
            go_wp2_with (go_at_call 61; refine (within_any _ _ _ _).mono ?_; rintro e w' ⟨rfl, rfl⟩)
            go_loopw [51] (fun i w5 => ∃ k : Nat, k ≤ la ∧ i = .int .i64 k ∧ Hid (∀ j (hj : j < a.length) (hj' : j < b.length), j < k → low2 n' d' (a[j], b[j]) = false) ∧ Below w1.heap.size w1 w5) (fun i _ => la - (intOf i).toNat)
            case atStart => exact ⟨0, by omega, rfl, fun j _ _ hj => by omega, Hbr.out⟩
            case round =>
              obtain ⟨k, hk, rfl, hL, hbr2⟩ := hrel
              have Hb2 := hid hbr2; clear hbr2
              have hz5 := Hb2.out.size
              have f7 := (Hb2.out.cell (p := ⟨w.heap.size, 0, none⟩) hz).trans c0
              have f8 := (Hb2.out.cell (p := ⟨w.heap.size, 1, none⟩) hz).trans c1
              clear d7 d8
              by_cases hkn : k < la
              · have hja : k < a.length := by rw [← Hla.out]; exact hkn
                have hjb : k < b.length := by rw [← Hlb.out]; exact hkn
                obtain ⟨c3, c4⟩ := Hca.out k hja
                obtain ⟨c5, c6⟩ := Hcb.out k hjb
                have hfx := HF2.out k hja hjb
                have hnx := LF_next (n := n') (d := d') hja hjb hL.out
                have hye := any_yes (n := n') (d := d') hja hjb
                generalize a[k] = x at c3 c4 hfx hnx hye
                generalize b[k] = y at c5 c6 hfx hnx hye
                obtain ⟨x1, x2⟩ := x
                obtain ⟨y1, y2⟩ := y
                simp only at c3 c4 c5 c6
                have B0 := HB1.out.trans (Hb2.out.mono HB1.out.size)
                have d3 := (B0.cell (p := ⟨ba, oa + k * 2, none⟩) hba).trans c3
                have d4 := (B0.cell (p := ⟨ba, oa + (k * 2 + 1), none⟩) hba).trans c4
                have d5 := (B0.cell (p := ⟨bb, ob + k * 2, none⟩) hbb).trans c5
                have d6 := (B0.cell (p := ⟨bb, ob + (k * 2 + 1), none⟩) hbb).trans c6
                have HB2 := hid B0
                rw [← Nat.add_assoc] at d4 d6

                have hfi := fun W => fisher_at (a1 := x1) (a2 := x2) (b1 := y1) (b2 := y2) hfx W
                have hP := nX_le hfx
                have hQ := dX_le hfx
                simp only [low2] at hnx hye
                generalize nX ((x1, x2), y1, y2) = P at hfi hP hnx hye
                generalize dX ((x1, x2), y1, y2) = Q at hfi hQ hnx hye
                have hab := fun W => above_any P Q n' d' hP hQ (by omega) hd2 W
                have hba2 : ba < wr.heap.size := by omega
                have hbb2 : bb < wr.heap.size := by omega
                have hzw2 : w.heap.size < wr.heap.size := by omega
                clear hP hQ hfx c3 c4 c5 c6 B0 hL
                have Hfi := hid hfi; have Hnx := hid hnx; have Hye := hid hye
                clear hfi hnx hye
                by_cases hg : n' * Q < P * d'
                · rw [decide_eq_true hg] at hab
                  have Hab := hid hab
                  have Hn3 := hid (Hnx.out (decide_eq_false (Nat.not_le.2 hg)))
                  clear hab hg
                  go_wp2_with fail
                  go_region_held3 (fun w' => w'.cell? ⟨ba, oa + k * 2, none⟩ = some (.int .i64 x1) ∧ w'.cell? ⟨ba, oa + k * 2 + 1, none⟩ = some (.int .i64 x2) ∧ w'.cell? ⟨bb, ob + k * 2, none⟩ = some (.int .i64 y1) ∧ w'.cell? ⟨bb, ob + k * 2 + 1, none⟩ = some (.int .i64 y2) ∧ w'.cell? ⟨w.heap.size, 0, none⟩ = some (.int .i64 n') ∧ w'.cell? ⟨w.heap.size, 1, none⟩ = some (.int .i64 d')) (first | exact ⟨d3, d4, d5, d6, f7, f8⟩ | exact ⟨e3, e4, e5, e6, e7, e8⟩ | exact ⟨r3, r4, r5, r6, r7, r8⟩)
                  (first | (go_at_call 54; refine (Hfi.out _).mono ?_; rintro e w3 ⟨rfl, hb3⟩; have e3 := (hb3.cell (p := ⟨ba, oa + k * 2, none⟩) (by simp; omega)).trans d3; have e4 := (hb3.cell (p := ⟨ba, oa + k * 2 + 1, none⟩) (by simp; omega)).trans d4; have e5 := (hb3.cell (p := ⟨bb, ob + k * 2, none⟩) (by simp; omega)).trans d5; have e6 := (hb3.cell (p := ⟨bb, ob + k * 2 + 1, none⟩) (by simp; omega)).trans d6; have e7 := (hb3.cell (p := ⟨w.heap.size, 0, none⟩) (by simp; omega)).trans f7; have e8 := (hb3.cell (p := ⟨w.heap.size, 1, none⟩) (by simp; omega)).trans f8) | (go_at_call 62; refine (Hab.out _).mono ?_; rintro e w4 ⟨rfl, hb4⟩; have hz3 := hb3.size; simp at hz3; have r3 := (hb4.cell (p := ⟨ba, oa + k * 2, none⟩) (by simp; omega)).trans e3; have r4 := (hb4.cell (p := ⟨ba, oa + k * 2 + 1, none⟩) (by simp; omega)).trans e4; have r5 := (hb4.cell (p := ⟨bb, ob + k * 2, none⟩) (by simp; omega)).trans e5; have r6 := (hb4.cell (p := ⟨bb, ob + k * 2 + 1, none⟩) (by simp; omega)).trans e6; have r7 := (hb4.cell (p := ⟨w.heap.size, 0, none⟩) (by simp; omega)).trans e7; have r8 := (hb4.cell (p := ⟨w.heap.size, 1, none⟩) (by simp; omega)).trans e8))
                  have Hb6 := hid (Hb2.out.trans ((below_drewN (Below.refl _ _) 1).trans ((hb3.mono (Nat.le_refl _)).trans (hb4.mono hb3.size)) |>.mono Hb2.out.size))
                  go_wp2_with fail
                  go_roundw
                  case rel => exact ⟨k + 1, by omega, by go_num, Hn3.out, Hb6.out⟩
                  case measure => simp [intOf]; omega
                · rw [decide_eq_false hg] at hab
                  have Hab := hid hab
                  have Hn3 := hid (Hye.out (decide_eq_true (Nat.not_lt.1 hg)))
                  clear hab hg
                  go_wp2_with fail
                  go_region_held3 (fun w' => w'.cell? ⟨ba, oa + k * 2, none⟩ = some (.int .i64 x1) ∧ w'.cell? ⟨ba, oa + k * 2 + 1, none⟩ = some (.int .i64 x2) ∧ w'.cell? ⟨bb, ob + k * 2, none⟩ = some (.int .i64 y1) ∧ w'.cell? ⟨bb, ob + k * 2 + 1, none⟩ = some (.int .i64 y2) ∧ w'.cell? ⟨w.heap.size, 0, none⟩ = some (.int .i64 n') ∧ w'.cell? ⟨w.heap.size, 1, none⟩ = some (.int .i64 d')) (first | exact ⟨d3, d4, d5, d6, f7, f8⟩ | exact ⟨e3, e4, e5, e6, e7, e8⟩ | exact ⟨r3, r4, r5, r6, r7, r8⟩)
                  (first | (go_at_call 54; refine (Hfi.out _).mono ?_; rintro e w3 ⟨rfl, hb3⟩; have e3 := (hb3.cell (p := ⟨ba, oa + k * 2, none⟩) (by simp; omega)).trans d3; have e4 := (hb3.cell (p := ⟨ba, oa + k * 2 + 1, none⟩) (by simp; omega)).trans d4; have e5 := (hb3.cell (p := ⟨bb, ob + k * 2, none⟩) (by simp; omega)).trans d5; have e6 := (hb3.cell (p := ⟨bb, ob + k * 2 + 1, none⟩) (by simp; omega)).trans d6; have e7 := (hb3.cell (p := ⟨w.heap.size, 0, none⟩) (by simp; omega)).trans f7; have e8 := (hb3.cell (p := ⟨w.heap.size, 1, none⟩) (by simp; omega)).trans f8) | (go_at_call 62; refine (Hab.out _).mono ?_; rintro e w4 ⟨rfl, hb4⟩; have hz3 := hb3.size; simp at hz3; have r3 := (hb4.cell (p := ⟨ba, oa + k * 2, none⟩) (by simp; omega)).trans e3; have r4 := (hb4.cell (p := ⟨ba, oa + k * 2 + 1, none⟩) (by simp; omega)).trans e4; have r5 := (hb4.cell (p := ⟨bb, ob + k * 2, none⟩) (by simp; omega)).trans e5; have r6 := (hb4.cell (p := ⟨bb, ob + k * 2 + 1, none⟩) (by simp; omega)).trans e6; have r7 := (hb4.cell (p := ⟨w.heap.size, 0, none⟩) (by simp; omega)).trans e7; have r8 := (hb4.cell (p := ⟨w.heap.size, 1, none⟩) (by simp; omega)).trans e8))
                  have Hb6 := hid (HB2.out.trans ((below_drewN (Below.refl _ _) 1).trans ((hb3.mono (Nat.le_refl _)).trans (hb4.mono hb3.size)) |>.mono HB2.out.size))
                  go_wp2_with fail
                  go_ret2
                  exact ⟨by rw [Ht.out.1, Ht.out.2, Hn3.out]; rfl, Hb6.out⟩
              · obtain rfl : la = k := by omega
                have hno := any_no (n := n') (d := d') Hl.out fun j hj hj' => hL.out j hj hj' (by rw [Hla.out]; exact hj)
                have Hno := hid hno
                have HB2 := hid (HB1.out.trans (Hb2.out.mono HB1.out.size))
                clear hno
                go_wp2_with fail
                go_ret2
                exact ⟨by rw [Ht.out.1, Ht.out.2, Hno.out]; rfl, HB2.out⟩
          · have hnf : decide (0 ≤ n ∧ n ≤ d) = false := decide_eq_false hn
            have Ht := hid (tl_1 (n := n) (d := d) Hsh.out HF2.out (by omega))
            go_wp2_with (go_at_call 61; refine (within_any _ _ _ _).mono ?_; rintro e w' ⟨rfl, rfl⟩)
            go_ret2
            exact ⟨by rw [Ht.out.1, Ht.out.2]; rfl, HB0.out⟩
        · have hdf : decide (1 ≤ d ∧ d ≤ 10000) = false := decide_eq_false hd
          have Ht := hid (tl_1 (n := n) (d := d) Hsh.out HF2.out (by omega))
          go_wp2_with (go_at_call 61; refine (within_any _ _ _ _).mono ?_; rintro e w' ⟨rfl, rfl⟩)
          go_ret2
          exact ⟨by rw [Ht.out.1, Ht.out.2]; rfl, HB0.out⟩
  · have Ht := hid (tl_80 (n := n) (d := d) hshape)
    by_cases hl : a.length = b.length
    · have hdf : decide ((1 : Int) ≤ b.length ∧ (b.length : Int) ≤ 12) = false := decide_eq_false (by omega)
      obtain ⟨la, hla⟩ : ∃ la, la = b.length := ⟨_, rfl⟩
      rw [hl]
      rw [← hla] at hdf
      rw [← hla]
      clear hshape hl hla
      go_enter Try.func30, Try.ntmps30
      go_wp2_with (go_at_call 61; refine (within_any _ _ _ _).mono ?_; rintro e w' ⟨rfl, rfl⟩)
      go_ret2
      exact ⟨by rw [Ht.out.1, Ht.out.2]; rfl, (Below.refl _ _).alloc (Nat.le_refl _) _⟩
    · have hne : ¬ (a.length : Int) = b.length := by omega
      clear hshape hl
      go_enter Try.func30, Try.ntmps30
      go_wp2_with fail
      go_ret2
      exact ⟨by rw [Ht.out.1, Ht.out.2]; rfl, (Below.refl _ _).alloc (Nat.le_refl _) _⟩
end Go.Proofs.Ytoljnbbhoeloeaa
