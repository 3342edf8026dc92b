/- WALK: boxes that contain a point, on both sides (printed by gen_hitw.py). -/
import Derived.Test.YtfkcpcdndleboaaCrossW
namespace Go.Proofs.Ytfkcpcdndleboaa
open Go.RowKit
/-- Does a box contain a point? -/
def hitB (b : Bxv) (x y : Fr) : Bool := !decide (x.lt b.x) && decide (x.lt b.xe) && !decide (y.lt b.y) && decide (y.lt b.ye)
noncomputable def hitE (L : List Bxv) (x y : Fr) : Int := if chB L = 0 then (if okB x = true ∧ okB y = true then 0 else 1) else chB L
def hitJ (L : List Bxv) (x y : Fr) (j : Nat) : List Nat := (List.range j).filter fun i => hitB (L.getD i bx0) x y
noncomputable def hitL (L : List Bxv) (x y : Fr) : List Nat := if hitE L x y = 0 then hitJ L x y L.length else []
theorem hitJ_s {L : List Bxv} {x y : Fr} {j : Nat} (h : j < L.length) : hitJ L x y (j + 1) = hitJ L x y j ++ if hitB L[j] x y = true then [j] else [] := by
  unfold hitJ
  rw [List.range_succ, List.filter_append, List.filter_cons, List.filter_nil, List.getD_eq_getElem?_getD, List.getElem?_eq_getElem h]
  rfl
theorem hitJ_len {L : List Bxv} {x y : Fr} {j : Nat} : (hitJ L x y j).length ≤ j := by
  have := List.length_filter_le (fun i => hitB (L.getD i bx0) x y) (List.range j)
  rw [List.length_range] at this
  exact this
def HitPost (L : List Bxv) (x y : Fr) (w : World) (e : Ending) (w' : World) : Prop :=
  ∃ v, e = .returned (.tuple #[v, .int .i64 (hitE L x y)]) ∧ w'.ownsRow w.heap.size 3 1 v (hitL L x y).length (ints (nz (hitL L x y))) ∧ Below w.heap.size w w'
set_option maxRecDepth 100000 in
set_option maxHeartbeats 8000000 in
theorem hit_any (L : List Bxv) (x y : Fr) (A : Option Addr) (c : Nat) (hn : L.length ≤ 1000000) (w : World) (r : Bxs w w.heap.size A L) :
    Calls Try.prog 39 #[.slice A L.length c, .agg #[.int .i64 x.n, .int .i64 x.d], .agg #[.int .i64 y.n, .int .i64 y.d]] w (HitPost L x y w) := by
  obtain ⟨w1, hw1⟩ : ∃ w1, w1 = (w.alloc (.cells #[.int .i64 x.n, .int .i64 x.d] 52)).alloc (.cells #[.int .i64 y.n, .int .i64 y.d] 52) := ⟨_, rfl⟩
  have hb1 : Below w.heap.size w w1 := by rw [hw1]; exact ((Below.refl _ _).alloc (Nat.le_refl _) _).alloc (by simp) _
  have h0 : FrB w1 w.heap.size x := by rw [hw1]; exact old_blk (nw_blk rfl)
  have h1 : FrB w1 (w.heap.size + 1) y := by rw [hw1]; exact nw_blk (by simp)
  have HC := hid fun (W : World) (h : Below w1.heap.size w1 W) => (show (W.cell? ⟨w.heap.size, 0, none⟩ = some (.int .i64 x.n) ∧ W.cell? ⟨w.heap.size, 1, none⟩ = some (.int .i64 x.d)) ∧ W.cell? ⟨w.heap.size + 1, 0, none⟩ = some (.int .i64 y.n) ∧ W.cell? ⟨w.heap.size + 1, 1, none⟩ = some (.int .i64 y.d) from ⟨(h0.below h).cells.1, (h1.below h).cells.1⟩)
  have HCK := hid (boxCheck_any L A c hn w1 (r.below hb1 |>.more hb1.size))
  have HVX := hid fun W : World => valid_any x W
  have HVY := hid fun W : World => valid_any y W
  have hzr := chB_zero (L := L)
  have hE : hitE L x y = if chB L = 0 then (if okB x = true ∧ okB y = true then 0 else 1) else chB L := rfl
  have hLE : hitE L x y ≠ 0 → hitL L x y = [] := fun h => if_neg h
  have hLK : hitE L x y = 0 → hitL L x y = hitJ L x y L.length := fun h => if_pos h
  have HPO := hid fun (e : Ending) (w' : World) (v : Value) (h1 : e = Ending.returned (.tuple #[v, .int .i64 (hitE L x y)])) (h2 : w'.ownsRow w.heap.size 3 1 v (hitL L x y).length (ints (nz (hitL L x y)))) (h3 : Below w.heap.size w w') => (show HitPost L x y w e w' from ⟨v, h1, h2, h3⟩)
  have HAT := hid fun (hl : 0 < L.length) => r.at hl
  have HFX := hid fun (hx : okB x = true) (hy : okB y = true) (b : Bxv) (hb : b.placed) => (show (∀ W : World, Calls Try.prog 60 #[.agg #[.int .i64 b.x.n, .int .i64 b.x.d], .agg #[.int .i64 x.n, .int .i64 x.d]] W fun e w' => e = .returned (.int .i64 (cmpF b.x x)) ∧ Below W.heap.size W w') ∧
      (∀ W : World, Calls Try.prog 69 #[.agg #[.int .i64 b.x.n, .int .i64 b.x.d], .agg #[.int .i64 b.w.n, .int .i64 b.w.d]] W fun e w' => e = .returned (.agg #[.int .i64 b.xe.n, .int .i64 b.xe.d]) ∧ Below W.heap.size W w') ∧
      (∀ W : World, Calls Try.prog 60 #[.agg #[.int .i64 x.n, .int .i64 x.d], .agg #[.int .i64 b.xe.n, .int .i64 b.xe.d]] W fun e w' => e = .returned (.int .i64 (cmpF x b.xe)) ∧ Below W.heap.size W w') ∧
      (∀ W : World, Calls Try.prog 60 #[.agg #[.int .i64 b.y.n, .int .i64 b.y.d], .agg #[.int .i64 y.n, .int .i64 y.d]] W fun e w' => e = .returned (.int .i64 (cmpF b.y y)) ∧ Below W.heap.size W w') ∧
      (∀ W : World, Calls Try.prog 69 #[.agg #[.int .i64 b.y.n, .int .i64 b.y.d], .agg #[.int .i64 b.h.n, .int .i64 b.h.d]] W fun e w' => e = .returned (.agg #[.int .i64 b.ye.n, .int .i64 b.ye.d]) ∧ Below W.heap.size W w') ∧
      (∀ W : World, Calls Try.prog 60 #[.agg #[.int .i64 y.n, .int .i64 y.d], .agg #[.int .i64 b.ye.n, .int .i64 b.ye.d]] W fun e w' => e = .returned (.int .i64 (cmpF y b.ye)) ∧ Below W.heap.size W w') from by
    have kx := (okB_iff.1 hx).num; have ky := (okB_iff.1 hy).num
    exact ⟨fun W => compareV_any b.x x (hb.x.num.prd kx (by decide) (by decide) (by decide)) W, fun W => addV_any b.x b.w (hb.x.num.prd hb.w.num (by decide) (by decide) (by decide)) W, fun W => compareV_any x b.xe (kx.prd hb.xe.num (by decide) (by decide) (by decide)) W,
      fun W => compareV_any b.y y (hb.y.num.prd ky (by decide) (by decide) (by decide)) W, fun W => addV_any b.y b.h (hb.y.num.prd hb.h.num (by decide) (by decide) (by decide)) W, fun W => compareV_any y b.ye (ky.prd hb.ye.num (by decide) (by decide) (by decide)) W⟩)
  obtain ⟨Q, hQ⟩ : ∃ Q, Q = HitPost L x y w := ⟨_, rfl⟩
  have hQe : ∀ e w', HitPost L x y w e w' = Q e w' := fun e w' => by rw [hQ]
  simp only [hQe] at HPO
  rw [← hQ]
  clear hQe hQ
  obtain ⟨n, hnn⟩ : ∃ n, n = L.length := ⟨_, rfl⟩
  rw [← hnn] at hn HCK hLK ⊢
  have HN := hid hnn
  have HW1 := hid hw1; have HB1 := hid hb1
  clear hw1 hb1 h0 h1 r hnn
  obtain ⟨B0, hB0⟩ : ∃ B0, B0 = w.heap.size := ⟨_, rfl⟩
  obtain ⟨B1, hB1⟩ : ∃ B1, B1 = B0 + 1 := ⟨_, rfl⟩
  have HB0 := hid hB0; have HBB := hid hB1
  rw [← hB0] at HC
  rw [← hB1] at HC
  clear hB0 hB1
  by_cases hc0 : chB L = 0
  rotate_left
  · rw [if_neg hc0] at hE
    have hl := hLE (by rw [hE]; exact hc0)
    rw [hE, hl] at HPO
    have g0 : (chB L != 0) = true := by simpa using hc0
    generalize chB L = E at *
    clear hzr hE hLE hLK hl hc0 HFX
    go_enter Try.func39, Try.ntmps39
    go_upto_region 1 with (fail)
    rw [← HW1.out, ← HB0.out, ← HBB.out]
    obtain ⟨⟨p0, p1⟩, p2, p3⟩ := HC.out w1 (Below.refl _ _)
    go_wp2_with (first | (go_at_call 68; refine HCK.out.mono ?_; rintro e w2 ⟨rfl, hb2⟩; have HB2 := hid hb2; obtain ⟨⟨q0, q1⟩, q2, q3⟩ := HC.out w2 hb2; clear hb2 p0 p1 p2 p3))
    exact HPO.out _ _ (.slice none 0 0) rfl (World.ownsRow_nil _ _ _ _) (HB1.out.trans (HB2.out.mono HB1.out.size))
  rw [if_pos hc0] at hE
  obtain ⟨hn2, hpl⟩ := hzr hc0
  rw [hc0] at HCK
  clear hzr hc0
  cases e1 : okB x with
  | false =>
    rw [if_neg (by rw [e1]; simp)] at hE
    have hl := hLE (by rw [hE]; decide)
    rw [hE, hl] at HPO
    clear hE hLE hLK hl HFX HVY
    go_enter Try.func39, Try.ntmps39
    go_upto_region 1 with (fail)
    rw [← HW1.out, ← HB0.out, ← HBB.out]
    obtain ⟨⟨p0, p1⟩, p2, p3⟩ := HC.out w1 (Below.refl _ _)
    go_wp2_with (first | (go_at_call 68; refine HCK.out.mono ?_; rintro e w2 ⟨rfl, hb2⟩; have HB2 := hid hb2; obtain ⟨⟨q0, q1⟩, q2, q3⟩ := HC.out w2 hb2; clear hb2 p0 p1 p2 p3) | (go_at_call 59; with_reducible refine (HVX.out _).mono ?_; rintro e w3 ⟨rfl, hb3⟩; have HB3 := hid (bnext0 HB2.out hb3); obtain ⟨⟨r0, r1⟩, r2, r3⟩ := HC.out w3 HB3.out; clear hb3 q0 q1 q2 q3))
    exact HPO.out _ _ (.slice none 0 0) rfl (World.ownsRow_nil _ _ _ _) (HB1.out.trans (HB3.out.mono HB1.out.size))
  | true =>
    cases e2 : okB y with
    | false =>
      rw [if_neg (by rw [e2]; simp)] at hE
      have hl := hLE (by rw [hE]; decide)
      rw [hE, hl] at HPO
      clear hE hLE hLK hl HFX
      go_enter Try.func39, Try.ntmps39
      go_upto_region 1 with (fail)
      rw [← HW1.out, ← HB0.out, ← HBB.out]
      obtain ⟨⟨p0, p1⟩, p2, p3⟩ := HC.out w1 (Below.refl _ _)
      go_wp2_with (first | (go_at_call 68; refine HCK.out.mono ?_; rintro e w2 ⟨rfl, hb2⟩; have HB2 := hid hb2; obtain ⟨⟨q0, q1⟩, q2, q3⟩ := HC.out w2 hb2; clear hb2 p0 p1 p2 p3) | (go_at_call 59; with_reducible refine (HVX.out _).mono ?_; rintro e w3 ⟨rfl, hb3⟩; have HB3 := hid (bnext0 HB2.out hb3); obtain ⟨⟨r0, r1⟩, r2, r3⟩ := HC.out w3 HB3.out; clear hb3 q0 q1 q2 q3) | (go_at_call 59; with_reducible refine (HVY.out _).mono ?_; rintro e w4 ⟨rfl, hb4⟩; have HB4 := hid (bnext0 HB3.out hb4); clear hb4 r0 r1 r2 r3))
      exact HPO.out _ _ (.slice none 0 0) rfl (World.ownsRow_nil _ _ _ _) (HB1.out.trans (HB4.out.mono HB1.out.size))
    | true =>
      rw [if_pos ⟨e1, e2⟩] at hE
      have hl := hLK hE
      rw [hE, hl] at HPO
      replace HFX := hid (HFX.out e1 e2)
      have HPLC := hid hpl
      clear hE hLE hLK hl hpl
      go_enter Try.func39, Try.ntmps39
      go_upto_region 1 with (fail)
      rw [← HW1.out, ← HB0.out, ← HBB.out]
      obtain ⟨⟨p0, p1⟩, p2, p3⟩ := HC.out w1 (Below.refl _ _)
      go_wp2_with (first | (go_at_call 68; refine HCK.out.mono ?_; rintro e w2 ⟨rfl, hb2⟩; have HB2 := hid hb2; obtain ⟨⟨q0, q1⟩, q2, q3⟩ := HC.out w2 hb2; clear hb2 p0 p1 p2 p3) | (go_at_call 59; with_reducible refine (HVX.out _).mono ?_; rintro e w3 ⟨rfl, hb3⟩; have HB3 := hid (bnext0 HB2.out hb3); obtain ⟨⟨r0, r1⟩, r2, r3⟩ := HC.out w3 HB3.out; clear hb3 q0 q1 q2 q3) | (go_at_call 59; with_reducible refine (HVY.out _).mono ?_; rintro e w4 ⟨rfl, hb4⟩; have HB4 := hid (bnext0 HB3.out hb4); clear hb4 r0 r1 r2 r3))
      have HB0' := hid (Below.refl w4.heap.size w4)
      go_loopw [9, 27] (fun v iv wr => ∃ j : Nat, j ≤ n ∧ iv = .int .i64 j ∧ Hid (wr.ownsRow w4.heap.size 3 1 v (hitJ L x y j).length (ints (nz (hitJ L x y j)))) ∧ Hid (Below w4.heap.size w4 wr)) (fun _ iv _ => n - (intOf iv).toNat)
      case atStart => exact ⟨0, by omega, rfl, hid (World.ownsRow_nil _ _ _ _), HB0'⟩
      case round =>
        obtain ⟨j, hj, rfl, hO, hB⟩ := hrel
        by_cases hjn : j < n
        · have hjl : j < L.length := by rw [← HN.out]; exact hjn
          obtain ⟨b, o, rfl, hbB, hc⟩ := HAT.out (by omega)
          have HXB := hid (bnext0 HB4.out hB.out)
          have hrg := hid (range_below (hc j hjl) (HB1.out.trans (HXB.out.mono HB1.out.size)) hbB)
          have q0 : (j : Int) < (n : Int) := by omega
          have hpj := HPLC.out _ (List.getElem_mem hjl)
          have HJS := hid (hitJ_s (x := x) (y := y) hjl)
          have hjl2 := hitJ_len (L := L) (x := x) (y := y) (j := j)
          obtain ⟨k1, k2, k3, k4, k5, k6⟩ := HFX.out _ hpj
          have HA1 := hid k1; have HA2 := hid k2; have HA3 := hid k3; have HA4 := hid k4; have HA5 := hid k5; have HA6 := hid k6
          clear hc hpj k1 k2 k3 k4 k5 k6
          generalize L[j] = bb at *
          obtain ⟨H2, hH2⟩ : ∃ H2, H2 = hitJ L x y (j + 1) := ⟨_, rfl⟩
          rw [← hH2] at HJS
          have HH2 := hid hH2
          clear hH2
          generalize hitJ L x y j = H1 at *
          have hjl2' : H1.length ≤ 1000000 := by omega
          clear hjl2
          have hcr : hitB bb x y = (!decide (x.lt bb.x) && decide (x.lt bb.xe) && !decide (y.lt bb.y) && decide (y.lt bb.ye)) := rfl
          have l1 : decide (cmpF bb.x x ≤ 0) = !decide (x.lt bb.x) := by rw [← decide_not]; exact decide_eq_decide.2 cmp_le
          have l2 : decide (cmpF x bb.xe < 0) = decide (x.lt bb.xe) := decide_eq_decide.2 cmp_lt
          have l3 : decide (cmpF bb.y y ≤ 0) = !decide (y.lt bb.y) := by rw [← decide_not]; exact decide_eq_decide.2 cmp_le
          have l4 : decide (cmpF y bb.ye < 0) = decide (y.lt bb.ye) := decide_eq_decide.2 cmp_lt
          generalize cmpF bb.x x = m1 at *
          generalize cmpF x bb.xe = m2 at *
          generalize cmpF bb.y y = m3 at *
          generalize cmpF y bb.ye = m4 at *
          generalize decide (x.lt bb.x) = d1 at *
          generalize decide (x.lt bb.xe) = d2 at *
          generalize decide (y.lt bb.y) = d3 at *
          generalize decide (y.lt bb.ye) = d4 at *
          generalize bb.xe = fx at *
          generalize bb.ye = fy at *
          generalize hitB bb x y = hb at *
          have HCR := hid hcr
          clear hcr
          cases d1 with
          | true =>
            have hr : hb = false := by rw [HCR.out]; simp
            replace HCR := hid hr
            simp only [Bool.not_true] at l1 l3
            clear hr
            go_upto_region 10 with (first | (refine wp_load_bxat rfl (.tmp 30) rfl b (o + j * 15) bb rfl hrg.out ?_))
            obtain ⟨w5, hw5⟩ : ∃ w5, w5 = wr.alloc (.cells #[.int .i64 bb.nd.kind, .int .i64 bb.nd.sign, .int .i64 bb.nd.turn, .bool bb.nd.mir, .int .i64 bb.nd.state, .int .i64 bb.nd.mn, .int .i64 bb.nd.mx, .int .i64 bb.x.n, .int .i64 bb.x.d, .int .i64 bb.y.n, .int .i64 bb.y.d, .int .i64 bb.w.n, .int .i64 bb.w.d, .int .i64 bb.h.n, .int .i64 bb.h.d] 54) := ⟨_, rfl⟩
            obtain ⟨b5, hb5'⟩ : ∃ b, b = wr.heap.size := ⟨_, rfl⟩
            have HV5 := hid (show BxB w5 b5 bb by rw [hw5, hb5']; exact nw_blk rfl)
            have HB5 := hid (show Below wr.heap.size wr w5 by rw [hw5]; exact (Below.refl _ _).alloc (Nat.le_refl _) _)
            rw [← hw5]
            try rw [← hb5']
            clear hw5 hb5'
            have cz := fun z : BW w5.heap.size w5 => (HV5.out.below z.ok).cells
            have cy := fun z : BW w5.heap.size w5 => HC.out z.val (bnext0 (bnext0 HXB.out HB5.out) z.ok)
            have i7 := fun z => (cz z).k7; have i8 := fun z => (cz z).k8; have i9 := fun z => (cz z).k9; have i10 := fun z => (cz z).k10; have i11 := fun z => (cz z).k11; have i12 := fun z => (cz z).k12; have i13 := fun z => (cz z).k13; have i14 := fun z => (cz z).k14
            have j0 := fun z => (cy z).1.1; have j1 := fun z => (cy z).1.2; have j2 := fun z => (cy z).2.1; have j3 := fun z => (cy z).2.2
            clear cz cy
            have HZ1 := hid (below_class (wb := w5) (Nat.le_refl w5.heap.size) fun z => HA1.out z.val)
            refine region_below (by kernel_rfl) (by kernel_rfl) (Below.refl w5.heap.size w5) ?_
            repeat (go_big_quiet_step (first | (go_at_call 60; with_reducible exact (HZ1.out _))))
            refine wpQuiet_nil ?_
            intro _ hw'
            obtain ⟨z, rfl⟩ := hw'
            have HZB := hid (HB5.out.trans (z.ok.mono HB5.out.size))
            clear i7 i8 i9 i10 i11 i12 i13 i14 j0 j1 j2 j3
            have HO6 := hid (show z.val.ownsRow w4.heap.size 3 1 u9 H2.length (ints (nz H2)) from by rw [HJS.out, HCR.out, if_neg (by decide), List.append_nil]; exact own_keep hO.out HZB.out)
            have HB6 := hid (show Below w4.heap.size w4 z.val from bnext0 hB.out HZB.out)
            clear hO
            go_wp2_with fail
            go_roundw
            case rel => exact ⟨j + 1, by omega, by go_num, by rw [← HH2.out]; exact HO6, HB6⟩
            case measure => simp [intOf]; omega
          | false =>
            cases d2 with
            | false =>
              have hr : hb = false := by rw [HCR.out]; simp
              replace HCR := hid hr
              simp only [Bool.not_false] at l1 l3
              clear hr
              go_upto_region 10 with (first | (refine wp_load_bxat rfl (.tmp 30) rfl b (o + j * 15) bb rfl hrg.out ?_))
              obtain ⟨w5, hw5⟩ : ∃ w5, w5 = wr.alloc (.cells #[.int .i64 bb.nd.kind, .int .i64 bb.nd.sign, .int .i64 bb.nd.turn, .bool bb.nd.mir, .int .i64 bb.nd.state, .int .i64 bb.nd.mn, .int .i64 bb.nd.mx, .int .i64 bb.x.n, .int .i64 bb.x.d, .int .i64 bb.y.n, .int .i64 bb.y.d, .int .i64 bb.w.n, .int .i64 bb.w.d, .int .i64 bb.h.n, .int .i64 bb.h.d] 54) := ⟨_, rfl⟩
              obtain ⟨b5, hb5'⟩ : ∃ b, b = wr.heap.size := ⟨_, rfl⟩
              have HV5 := hid (show BxB w5 b5 bb by rw [hw5, hb5']; exact nw_blk rfl)
              have HB5 := hid (show Below wr.heap.size wr w5 by rw [hw5]; exact (Below.refl _ _).alloc (Nat.le_refl _) _)
              rw [← hw5]
              try rw [← hb5']
              clear hw5 hb5'
              have cz := fun z : BW w5.heap.size w5 => (HV5.out.below z.ok).cells
              have cy := fun z : BW w5.heap.size w5 => HC.out z.val (bnext0 (bnext0 HXB.out HB5.out) z.ok)
              have i7 := fun z => (cz z).k7; have i8 := fun z => (cz z).k8; have i9 := fun z => (cz z).k9; have i10 := fun z => (cz z).k10; have i11 := fun z => (cz z).k11; have i12 := fun z => (cz z).k12; have i13 := fun z => (cz z).k13; have i14 := fun z => (cz z).k14
              have j0 := fun z => (cy z).1.1; have j1 := fun z => (cy z).1.2; have j2 := fun z => (cy z).2.1; have j3 := fun z => (cy z).2.2
              clear cz cy
              have HZ1 := hid (below_class (wb := w5) (Nat.le_refl w5.heap.size) fun z => HA1.out z.val); have HZ2 := hid (below_class (wb := w5) (Nat.le_refl w5.heap.size) fun z => HA2.out z.val); have HZ3 := hid (below_class (wb := w5) (Nat.le_refl w5.heap.size) fun z => HA3.out z.val)
              refine region_below (by kernel_rfl) (by kernel_rfl) (Below.refl w5.heap.size w5) ?_
              repeat (go_big_quiet_step (first | (go_at_call 60; with_reducible exact (HZ1.out _)) | (go_at_call 69; with_reducible exact (HZ2.out _)) | (go_at_call 60; with_reducible exact (HZ3.out _))))
              refine wpQuiet_nil ?_
              intro _ hw'
              obtain ⟨z, rfl⟩ := hw'
              have HZB := hid (HB5.out.trans (z.ok.mono HB5.out.size))
              clear i7 i8 i9 i10 i11 i12 i13 i14 j0 j1 j2 j3
              have HO6 := hid (show z.val.ownsRow w4.heap.size 3 1 u9 H2.length (ints (nz H2)) from by rw [HJS.out, HCR.out, if_neg (by decide), List.append_nil]; exact own_keep hO.out HZB.out)
              have HB6 := hid (show Below w4.heap.size w4 z.val from bnext0 hB.out HZB.out)
              clear hO
              go_wp2_with fail
              go_roundw
              case rel => exact ⟨j + 1, by omega, by go_num, by rw [← HH2.out]; exact HO6, HB6⟩
              case measure => simp [intOf]; omega
            | true =>
              cases d3 with
              | true =>
                have hr : hb = false := by rw [HCR.out]; simp
                replace HCR := hid hr
                simp only [Bool.not_true, Bool.not_false] at l1 l3
                clear hr
                go_upto_region 10 with (first | (refine wp_load_bxat rfl (.tmp 30) rfl b (o + j * 15) bb rfl hrg.out ?_))
                obtain ⟨w5, hw5⟩ : ∃ w5, w5 = wr.alloc (.cells #[.int .i64 bb.nd.kind, .int .i64 bb.nd.sign, .int .i64 bb.nd.turn, .bool bb.nd.mir, .int .i64 bb.nd.state, .int .i64 bb.nd.mn, .int .i64 bb.nd.mx, .int .i64 bb.x.n, .int .i64 bb.x.d, .int .i64 bb.y.n, .int .i64 bb.y.d, .int .i64 bb.w.n, .int .i64 bb.w.d, .int .i64 bb.h.n, .int .i64 bb.h.d] 54) := ⟨_, rfl⟩
                obtain ⟨b5, hb5'⟩ : ∃ b, b = wr.heap.size := ⟨_, rfl⟩
                have HV5 := hid (show BxB w5 b5 bb by rw [hw5, hb5']; exact nw_blk rfl)
                have HB5 := hid (show Below wr.heap.size wr w5 by rw [hw5]; exact (Below.refl _ _).alloc (Nat.le_refl _) _)
                rw [← hw5]
                try rw [← hb5']
                clear hw5 hb5'
                have cz := fun z : BW w5.heap.size w5 => (HV5.out.below z.ok).cells
                have cy := fun z : BW w5.heap.size w5 => HC.out z.val (bnext0 (bnext0 HXB.out HB5.out) z.ok)
                have i7 := fun z => (cz z).k7; have i8 := fun z => (cz z).k8; have i9 := fun z => (cz z).k9; have i10 := fun z => (cz z).k10; have i11 := fun z => (cz z).k11; have i12 := fun z => (cz z).k12; have i13 := fun z => (cz z).k13; have i14 := fun z => (cz z).k14
                have j0 := fun z => (cy z).1.1; have j1 := fun z => (cy z).1.2; have j2 := fun z => (cy z).2.1; have j3 := fun z => (cy z).2.2
                clear cz cy
                have HZ1 := hid (below_class (wb := w5) (Nat.le_refl w5.heap.size) fun z => HA1.out z.val); have HZ2 := hid (below_class (wb := w5) (Nat.le_refl w5.heap.size) fun z => HA2.out z.val); have HZ3 := hid (below_class (wb := w5) (Nat.le_refl w5.heap.size) fun z => HA3.out z.val); have HZ4 := hid (below_class (wb := w5) (Nat.le_refl w5.heap.size) fun z => HA4.out z.val)
                refine region_below (by kernel_rfl) (by kernel_rfl) (Below.refl w5.heap.size w5) ?_
                repeat (go_big_quiet_step (first | (go_at_call 60; with_reducible exact (HZ1.out _)) | (go_at_call 69; with_reducible exact (HZ2.out _)) | (go_at_call 60; with_reducible exact (HZ3.out _)) | (go_at_call 60; with_reducible exact (HZ4.out _))))
                refine wpQuiet_nil ?_
                intro _ hw'
                obtain ⟨z, rfl⟩ := hw'
                have HZB := hid (HB5.out.trans (z.ok.mono HB5.out.size))
                clear i7 i8 i9 i10 i11 i12 i13 i14 j0 j1 j2 j3
                have HO6 := hid (show z.val.ownsRow w4.heap.size 3 1 u9 H2.length (ints (nz H2)) from by rw [HJS.out, HCR.out, if_neg (by decide), List.append_nil]; exact own_keep hO.out HZB.out)
                have HB6 := hid (show Below w4.heap.size w4 z.val from bnext0 hB.out HZB.out)
                clear hO
                go_wp2_with fail
                go_roundw
                case rel => exact ⟨j + 1, by omega, by go_num, by rw [← HH2.out]; exact HO6, HB6⟩
                case measure => simp [intOf]; omega
              | false =>
                cases d4 with
                | false =>
                  have hr : hb = false := by rw [HCR.out]; simp
                  replace HCR := hid hr
                  simp only [Bool.not_false] at l1 l3
                  clear hr
                  go_upto_region 10 with (first | (refine wp_load_bxat rfl (.tmp 30) rfl b (o + j * 15) bb rfl hrg.out ?_))
                  obtain ⟨w5, hw5⟩ : ∃ w5, w5 = wr.alloc (.cells #[.int .i64 bb.nd.kind, .int .i64 bb.nd.sign, .int .i64 bb.nd.turn, .bool bb.nd.mir, .int .i64 bb.nd.state, .int .i64 bb.nd.mn, .int .i64 bb.nd.mx, .int .i64 bb.x.n, .int .i64 bb.x.d, .int .i64 bb.y.n, .int .i64 bb.y.d, .int .i64 bb.w.n, .int .i64 bb.w.d, .int .i64 bb.h.n, .int .i64 bb.h.d] 54) := ⟨_, rfl⟩
                  obtain ⟨b5, hb5'⟩ : ∃ b, b = wr.heap.size := ⟨_, rfl⟩
                  have HV5 := hid (show BxB w5 b5 bb by rw [hw5, hb5']; exact nw_blk rfl)
                  have HB5 := hid (show Below wr.heap.size wr w5 by rw [hw5]; exact (Below.refl _ _).alloc (Nat.le_refl _) _)
                  rw [← hw5]
                  try rw [← hb5']
                  clear hw5 hb5'
                  have cz := fun z : BW w5.heap.size w5 => (HV5.out.below z.ok).cells
                  have cy := fun z : BW w5.heap.size w5 => HC.out z.val (bnext0 (bnext0 HXB.out HB5.out) z.ok)
                  have i7 := fun z => (cz z).k7; have i8 := fun z => (cz z).k8; have i9 := fun z => (cz z).k9; have i10 := fun z => (cz z).k10; have i11 := fun z => (cz z).k11; have i12 := fun z => (cz z).k12; have i13 := fun z => (cz z).k13; have i14 := fun z => (cz z).k14
                  have j0 := fun z => (cy z).1.1; have j1 := fun z => (cy z).1.2; have j2 := fun z => (cy z).2.1; have j3 := fun z => (cy z).2.2
                  clear cz cy
                  have HZ1 := hid (below_class (wb := w5) (Nat.le_refl w5.heap.size) fun z => HA1.out z.val); have HZ2 := hid (below_class (wb := w5) (Nat.le_refl w5.heap.size) fun z => HA2.out z.val); have HZ3 := hid (below_class (wb := w5) (Nat.le_refl w5.heap.size) fun z => HA3.out z.val); have HZ4 := hid (below_class (wb := w5) (Nat.le_refl w5.heap.size) fun z => HA4.out z.val); have HZ5 := hid (below_class (wb := w5) (Nat.le_refl w5.heap.size) fun z => HA5.out z.val); have HZ6 := hid (below_class (wb := w5) (Nat.le_refl w5.heap.size) fun z => HA6.out z.val)
                  refine region_below (by kernel_rfl) (by kernel_rfl) (Below.refl w5.heap.size w5) ?_
                  repeat (go_big_quiet_step (first | (go_at_call 60; with_reducible exact (HZ1.out _)) | (go_at_call 69; with_reducible exact (HZ2.out _)) | (go_at_call 60; with_reducible exact (HZ3.out _)) | (go_at_call 60; with_reducible exact (HZ4.out _)) | (go_at_call 69; with_reducible exact (HZ5.out _)) | (go_at_call 60; with_reducible exact (HZ6.out _))))
                  refine wpQuiet_nil ?_
                  intro _ hw'
                  obtain ⟨z, rfl⟩ := hw'
                  have HZB := hid (HB5.out.trans (z.ok.mono HB5.out.size))
                  clear i7 i8 i9 i10 i11 i12 i13 i14 j0 j1 j2 j3
                  have HO6 := hid (show z.val.ownsRow w4.heap.size 3 1 u9 H2.length (ints (nz H2)) from by rw [HJS.out, HCR.out, if_neg (by decide), List.append_nil]; exact own_keep hO.out HZB.out)
                  have HB6 := hid (show Below w4.heap.size w4 z.val from bnext0 hB.out HZB.out)
                  clear hO
                  go_wp2_with fail
                  go_roundw
                  case rel => exact ⟨j + 1, by omega, by go_num, by rw [← HH2.out]; exact HO6, HB6⟩
                  case measure => simp [intOf]; omega
                | true =>
                  have hr : hb = true := by rw [HCR.out]; rfl
                  replace HCR := hid hr
                  simp only [Bool.not_false] at l1 l3
                  clear hr
                  go_upto_region 10 with (first | (refine wp_load_bxat rfl (.tmp 30) rfl b (o + j * 15) bb rfl hrg.out ?_))
                  obtain ⟨w5, hw5⟩ : ∃ w5, w5 = wr.alloc (.cells #[.int .i64 bb.nd.kind, .int .i64 bb.nd.sign, .int .i64 bb.nd.turn, .bool bb.nd.mir, .int .i64 bb.nd.state, .int .i64 bb.nd.mn, .int .i64 bb.nd.mx, .int .i64 bb.x.n, .int .i64 bb.x.d, .int .i64 bb.y.n, .int .i64 bb.y.d, .int .i64 bb.w.n, .int .i64 bb.w.d, .int .i64 bb.h.n, .int .i64 bb.h.d] 54) := ⟨_, rfl⟩
                  obtain ⟨b5, hb5'⟩ : ∃ b, b = wr.heap.size := ⟨_, rfl⟩
                  have HV5 := hid (show BxB w5 b5 bb by rw [hw5, hb5']; exact nw_blk rfl)
                  have HB5 := hid (show Below wr.heap.size wr w5 by rw [hw5]; exact (Below.refl _ _).alloc (Nat.le_refl _) _)
                  rw [← hw5]
                  try rw [← hb5']
                  clear hw5 hb5'
                  have cz := fun z : BW w5.heap.size w5 => (HV5.out.below z.ok).cells
                  have cy := fun z : BW w5.heap.size w5 => HC.out z.val (bnext0 (bnext0 HXB.out HB5.out) z.ok)
                  have i7 := fun z => (cz z).k7; have i8 := fun z => (cz z).k8; have i9 := fun z => (cz z).k9; have i10 := fun z => (cz z).k10; have i11 := fun z => (cz z).k11; have i12 := fun z => (cz z).k12; have i13 := fun z => (cz z).k13; have i14 := fun z => (cz z).k14
                  have j0 := fun z => (cy z).1.1; have j1 := fun z => (cy z).1.2; have j2 := fun z => (cy z).2.1; have j3 := fun z => (cy z).2.2
                  clear cz cy
                  have HZ1 := hid (below_class (wb := w5) (Nat.le_refl w5.heap.size) fun z => HA1.out z.val); have HZ2 := hid (below_class (wb := w5) (Nat.le_refl w5.heap.size) fun z => HA2.out z.val); have HZ3 := hid (below_class (wb := w5) (Nat.le_refl w5.heap.size) fun z => HA3.out z.val); have HZ4 := hid (below_class (wb := w5) (Nat.le_refl w5.heap.size) fun z => HA4.out z.val); have HZ5 := hid (below_class (wb := w5) (Nat.le_refl w5.heap.size) fun z => HA5.out z.val); have HZ6 := hid (below_class (wb := w5) (Nat.le_refl w5.heap.size) fun z => HA6.out z.val)
                  refine region_below (by kernel_rfl) (by kernel_rfl) (Below.refl w5.heap.size w5) ?_
                  repeat (go_big_quiet_step (first | (go_at_call 60; with_reducible exact (HZ1.out _)) | (go_at_call 69; with_reducible exact (HZ2.out _)) | (go_at_call 60; with_reducible exact (HZ3.out _)) | (go_at_call 60; with_reducible exact (HZ4.out _)) | (go_at_call 69; with_reducible exact (HZ5.out _)) | (go_at_call 60; with_reducible exact (HZ6.out _))))
                  refine wpQuiet_nil ?_
                  intro _ hw'
                  obtain ⟨z, rfl⟩ := hw'
                  have HZB := hid (HB5.out.trans (z.ok.mono HB5.out.size))
                  clear i7 i8 i9 i10 i11 i12 i13 i14 j0 j1 j2 j3
                  have HO5 := hid fun X : Obj => own_keep hO.out (HZB.out.alloc HZB.out.size X)
                  have HEE := hid (show ints (nz H1) ++ [.int .i64 (j : Int)] = ints (nz H2) ∧ H1.length + 1 = H2.length from by rw [HJS.out, HCR.out, if_pos rfl]; exact ⟨by unfold nz ints; simp, by simp⟩)
                  have HBX := hid fun X : Obj => (show Below w4.heap.size w4 (z.val.alloc X) from bnext0 hB.out (HZB.out.alloc HZB.out.size X))
                  clear hO
                  go_wp2_with (first | (at_builtin; go_loud (refine app_elemF rfl (.tmp 64) (.tmp 66) Try.underlying65 Try.infoInt rfl (by decide) (by decide) rfl w4.heap.size _ H1.length (ints (nz H1)) rfl (HO5.out _) ⟨z.val.heap.size, 0, none⟩ [.int .i64 (j : Int)] rfl rfl one_in (fun u hu => by rw [List.mem_singleton.1 hu]; rfl) (by omega) (HBX.out _).size ?_); intro v6 w6 ho6 hg6 hf6; rw [HEE.out.1, HEE.out.2] at ho6; have HO6 := hid ho6; have HB6 := hid (below_app (HBX.out _) (HO5.out _) hg6 (Nat.le_refl _) (HBX.out _).size); clear ho6 hg6 hf6))
                  go_roundw
                  case rel => exact ⟨j + 1, by omega, by go_num, by rw [← HH2.out]; exact HO6, HB6⟩
                  case measure => simp [intOf]; omega
        · obtain rfl : j = n := by omega
          have q0 : decide ((j : Int) < (j : Int)) = false := by simp
          go_wp2_with fail
          exact HPO.out _ _ u9 rfl (own_down hO.out (by have := HB1.out.size; have := HB4.out.size; omega)) (HB1.out.trans (Below.mono (bnext0 HB4.out hB.out) HB1.out.size))
set_option maxRecDepth 100000 in
set_option maxHeartbeats 8000000 in
theorem hitR_any (L : List Bxv) (x y : Fr) (A : Option Addr) (c : Nat) (hn : L.length ≤ 1000000) (w : World) (r : Bxs w w.heap.size A L) :
    Calls Try.prog 40 #[.slice A L.length c, .agg #[.int .i64 x.n, .int .i64 x.d], .agg #[.int .i64 y.n, .int .i64 y.d]] w (HitPost L x y w) := by
  obtain ⟨w1, hw1⟩ : ∃ w1, w1 = (w.alloc (.cells #[.int .i64 x.n, .int .i64 x.d] 52)).alloc (.cells #[.int .i64 y.n, .int .i64 y.d] 52) := ⟨_, rfl⟩
  have hb1 : Below w.heap.size w w1 := by rw [hw1]; exact ((Below.refl _ _).alloc (Nat.le_refl _) _).alloc (by simp) _
  have h0 : FrB w1 w.heap.size x := by rw [hw1]; exact old_blk (nw_blk rfl)
  have h1 : FrB w1 (w.heap.size + 1) y := by rw [hw1]; exact nw_blk (by simp)
  have HC := hid fun (W : World) (h : Below w1.heap.size w1 W) => (show (W.cell? ⟨w.heap.size, 0, none⟩ = some (.int .i64 x.n) ∧ W.cell? ⟨w.heap.size, 1, none⟩ = some (.int .i64 x.d)) ∧ W.cell? ⟨w.heap.size + 1, 0, none⟩ = some (.int .i64 y.n) ∧ W.cell? ⟨w.heap.size + 1, 1, none⟩ = some (.int .i64 y.d) from ⟨(h0.below h).cells.1, (h1.below h).cells.1⟩)
  have HCK := hid (allPlaced_any L A c hn w1 (r.below hb1 |>.more hb1.size))
  have HVX := hid fun W : World => validR_any x W
  have HVY := hid fun W : World => validR_any y W
  have hzr := chB_zero (L := L)
  have hE : hitE L x y = if chB L = 0 then (if okB x = true ∧ okB y = true then 0 else 1) else chB L := rfl
  have hLE : hitE L x y ≠ 0 → hitL L x y = [] := fun h => if_neg h
  have hLK : hitE L x y = 0 → hitL L x y = hitJ L x y L.length := fun h => if_pos h
  have HPO := hid fun (e : Ending) (w' : World) (v : Value) (h1 : e = Ending.returned (.tuple #[v, .int .i64 (hitE L x y)])) (h2 : w'.ownsRow w.heap.size 3 1 v (hitL L x y).length (ints (nz (hitL L x y)))) (h3 : Below w.heap.size w w') => (show HitPost L x y w e w' from ⟨v, h1, h2, h3⟩)
  have HAT := hid fun (hl : 0 < L.length) => r.at hl
  have HFX := hid fun (hx : okB x = true) (hy : okB y = true) (b : Bxv) (hb : b.placed) => (show (∀ W : World, Calls Try.prog 57 #[.agg #[.int .i64 x.n, .int .i64 x.d], .agg #[.int .i64 b.x.n, .int .i64 b.x.d]] W fun e w' => e = .returned (.bool (decide (x.lt b.x))) ∧ Below W.heap.size W w') ∧
      (∀ W : World, Calls Try.prog 56 #[.agg #[.int .i64 b.x.n, .int .i64 b.x.d], .agg #[.int .i64 b.w.n, .int .i64 b.w.d]] W fun e w' => e = .returned (.agg #[.int .i64 b.xe.n, .int .i64 b.xe.d]) ∧ Below W.heap.size W w') ∧
      (∀ W : World, Calls Try.prog 57 #[.agg #[.int .i64 x.n, .int .i64 x.d], .agg #[.int .i64 b.xe.n, .int .i64 b.xe.d]] W fun e w' => e = .returned (.bool (decide (x.lt b.xe))) ∧ Below W.heap.size W w') ∧
      (∀ W : World, Calls Try.prog 57 #[.agg #[.int .i64 y.n, .int .i64 y.d], .agg #[.int .i64 b.y.n, .int .i64 b.y.d]] W fun e w' => e = .returned (.bool (decide (y.lt b.y))) ∧ Below W.heap.size W w') ∧
      (∀ W : World, Calls Try.prog 56 #[.agg #[.int .i64 b.y.n, .int .i64 b.y.d], .agg #[.int .i64 b.h.n, .int .i64 b.h.d]] W fun e w' => e = .returned (.agg #[.int .i64 b.ye.n, .int .i64 b.ye.d]) ∧ Below W.heap.size W w') ∧
      (∀ W : World, Calls Try.prog 57 #[.agg #[.int .i64 y.n, .int .i64 y.d], .agg #[.int .i64 b.ye.n, .int .i64 b.ye.d]] W fun e w' => e = .returned (.bool (decide (y.lt b.ye))) ∧ Below W.heap.size W w') from by
    have kx := (okB_iff.1 hx).num; have ky := (okB_iff.1 hy).num
    exact ⟨fun W => lessW_any x b.x (kx.prd hb.x.num (by decide) (by decide) (by decide)) W, fun W => addW_any b.x b.w (hb.x.num.prd hb.w.num (by decide) (by decide) (by decide)) W, fun W => lessW_any x b.xe (kx.prd hb.xe.num (by decide) (by decide) (by decide)) W,
      fun W => lessW_any y b.y (ky.prd hb.y.num (by decide) (by decide) (by decide)) W, fun W => addW_any b.y b.h (hb.y.num.prd hb.h.num (by decide) (by decide) (by decide)) W, fun W => lessW_any y b.ye (ky.prd hb.ye.num (by decide) (by decide) (by decide)) W⟩)
  obtain ⟨Q, hQ⟩ : ∃ Q, Q = HitPost L x y w := ⟨_, rfl⟩
  have hQe : ∀ e w', HitPost L x y w e w' = Q e w' := fun e w' => by rw [hQ]
  simp only [hQe] at HPO
  rw [← hQ]
  clear hQe hQ
  obtain ⟨n, hnn⟩ : ∃ n, n = L.length := ⟨_, rfl⟩
  rw [← hnn] at hn HCK hLK ⊢
  have HN := hid hnn
  have HW1 := hid hw1; have HB1 := hid hb1
  clear hw1 hb1 h0 h1 r hnn
  obtain ⟨B0, hB0⟩ : ∃ B0, B0 = w.heap.size := ⟨_, rfl⟩
  obtain ⟨B1, hB1⟩ : ∃ B1, B1 = B0 + 1 := ⟨_, rfl⟩
  have HB0 := hid hB0; have HBB := hid hB1
  rw [← hB0] at HC
  rw [← hB1] at HC
  clear hB0 hB1
  by_cases hc0 : chB L = 0
  rotate_left
  · rw [if_neg hc0] at hE
    have hl := hLE (by rw [hE]; exact hc0)
    rw [hE, hl] at HPO
    have g0 : (chB L != 0) = true := by simpa using hc0
    generalize chB L = E at *
    clear hzr hE hLE hLK hl hc0 HFX
    go_enter Try.func40, Try.ntmps40
    go_upto_region 1 with (fail)
    rw [← HW1.out, ← HB0.out, ← HBB.out]
    obtain ⟨⟨p0, p1⟩, p2, p3⟩ := HC.out w1 (Below.refl _ _)
    go_wp2_with (first | (go_at_call 73; refine HCK.out.mono ?_; rintro e w2 ⟨rfl, hb2⟩; have HB2 := hid hb2; obtain ⟨⟨q0, q1⟩, q2, q3⟩ := HC.out w2 hb2; clear hb2 p0 p1 p2 p3))
    exact HPO.out _ _ (.slice none 0 0) rfl (World.ownsRow_nil _ _ _ _) (HB1.out.trans (HB2.out.mono HB1.out.size))
  rw [if_pos hc0] at hE
  obtain ⟨hn2, hpl⟩ := hzr hc0
  rw [hc0] at HCK
  clear hzr hc0
  cases e1 : okB x with
  | false =>
    rw [if_neg (by rw [e1]; simp)] at hE
    have hl := hLE (by rw [hE]; decide)
    rw [hE, hl] at HPO
    clear hE hLE hLK hl HFX HVY
    go_enter Try.func40, Try.ntmps40
    go_upto_region 1 with (fail)
    rw [← HW1.out, ← HB0.out, ← HBB.out]
    obtain ⟨⟨p0, p1⟩, p2, p3⟩ := HC.out w1 (Below.refl _ _)
    go_wp2_with (first | (go_at_call 73; refine HCK.out.mono ?_; rintro e w2 ⟨rfl, hb2⟩; have HB2 := hid hb2; obtain ⟨⟨q0, q1⟩, q2, q3⟩ := HC.out w2 hb2; clear hb2 p0 p1 p2 p3) | (go_at_call 55; with_reducible refine (HVX.out _).mono ?_; rintro e w3 ⟨rfl, hb3⟩; have HB3 := hid (bnext0 HB2.out hb3); obtain ⟨⟨r0, r1⟩, r2, r3⟩ := HC.out w3 HB3.out; clear hb3 q0 q1 q2 q3))
    exact HPO.out _ _ (.slice none 0 0) rfl (World.ownsRow_nil _ _ _ _) (HB1.out.trans (HB3.out.mono HB1.out.size))
  | true =>
    cases e2 : okB y with
    | false =>
      rw [if_neg (by rw [e2]; simp)] at hE
      have hl := hLE (by rw [hE]; decide)
      rw [hE, hl] at HPO
      clear hE hLE hLK hl HFX
      go_enter Try.func40, Try.ntmps40
      go_upto_region 1 with (fail)
      rw [← HW1.out, ← HB0.out, ← HBB.out]
      obtain ⟨⟨p0, p1⟩, p2, p3⟩ := HC.out w1 (Below.refl _ _)
      go_wp2_with (first | (go_at_call 73; refine HCK.out.mono ?_; rintro e w2 ⟨rfl, hb2⟩; have HB2 := hid hb2; obtain ⟨⟨q0, q1⟩, q2, q3⟩ := HC.out w2 hb2; clear hb2 p0 p1 p2 p3) | (go_at_call 55; with_reducible refine (HVX.out _).mono ?_; rintro e w3 ⟨rfl, hb3⟩; have HB3 := hid (bnext0 HB2.out hb3); obtain ⟨⟨r0, r1⟩, r2, r3⟩ := HC.out w3 HB3.out; clear hb3 q0 q1 q2 q3) | (go_at_call 55; with_reducible refine (HVY.out _).mono ?_; rintro e w4 ⟨rfl, hb4⟩; have HB4 := hid (bnext0 HB3.out hb4); clear hb4 r0 r1 r2 r3))
      exact HPO.out _ _ (.slice none 0 0) rfl (World.ownsRow_nil _ _ _ _) (HB1.out.trans (HB4.out.mono HB1.out.size))
    | true =>
      rw [if_pos ⟨e1, e2⟩] at hE
      have hl := hLK hE
      rw [hE, hl] at HPO
      replace HFX := hid (HFX.out e1 e2)
      have HPLC := hid hpl
      clear hE hLE hLK hl hpl
      go_enter Try.func40, Try.ntmps40
      go_upto_region 1 with (fail)
      rw [← HW1.out, ← HB0.out, ← HBB.out]
      obtain ⟨⟨p0, p1⟩, p2, p3⟩ := HC.out w1 (Below.refl _ _)
      go_wp2_with (first | (go_at_call 73; refine HCK.out.mono ?_; rintro e w2 ⟨rfl, hb2⟩; have HB2 := hid hb2; obtain ⟨⟨q0, q1⟩, q2, q3⟩ := HC.out w2 hb2; clear hb2 p0 p1 p2 p3) | (go_at_call 55; with_reducible refine (HVX.out _).mono ?_; rintro e w3 ⟨rfl, hb3⟩; have HB3 := hid (bnext0 HB2.out hb3); obtain ⟨⟨r0, r1⟩, r2, r3⟩ := HC.out w3 HB3.out; clear hb3 q0 q1 q2 q3) | (go_at_call 55; with_reducible refine (HVY.out _).mono ?_; rintro e w4 ⟨rfl, hb4⟩; have HB4 := hid (bnext0 HB3.out hb4); clear hb4 r0 r1 r2 r3))
      have HB0' := hid (Below.refl w4.heap.size w4)
      go_loopw [9, 10] (fun v iv wr => ∃ j : Nat, j ≤ n ∧ iv = .int .i64 j ∧ Hid (wr.ownsRow w4.heap.size 3 1 v (hitJ L x y j).length (ints (nz (hitJ L x y j)))) ∧ Hid (Below w4.heap.size w4 wr)) (fun _ iv _ => n - (intOf iv).toNat)
      case atStart => exact ⟨0, by omega, rfl, hid (World.ownsRow_nil _ _ _ _), HB0'⟩
      case round =>
        obtain ⟨j, hj, rfl, hO, hB⟩ := hrel
        by_cases hjn : j < n
        · have hjl : j < L.length := by rw [← HN.out]; exact hjn
          obtain ⟨b, o, rfl, hbB, hc⟩ := HAT.out (by omega)
          have HXB := hid (bnext0 HB4.out hB.out)
          have hrg := hid (range_below (hc j hjl) (HB1.out.trans (HXB.out.mono HB1.out.size)) hbB)
          have q0 : (j : Int) < (n : Int) := by omega
          have hpj := HPLC.out _ (List.getElem_mem hjl)
          have HJS := hid (hitJ_s (x := x) (y := y) hjl)
          have hjl2 := hitJ_len (L := L) (x := x) (y := y) (j := j)
          obtain ⟨k1, k2, k3, k4, k5, k6⟩ := HFX.out _ hpj
          have HA1 := hid k1; have HA2 := hid k2; have HA3 := hid k3; have HA4 := hid k4; have HA5 := hid k5; have HA6 := hid k6
          clear hc hpj k1 k2 k3 k4 k5 k6
          generalize L[j] = bb at *
          obtain ⟨H2, hH2⟩ : ∃ H2, H2 = hitJ L x y (j + 1) := ⟨_, rfl⟩
          rw [← hH2] at HJS
          have HH2 := hid hH2
          clear hH2
          generalize hitJ L x y j = H1 at *
          have hjl2' : H1.length ≤ 1000000 := by omega
          clear hjl2
          have hcr : hitB bb x y = (!decide (x.lt bb.x) && decide (x.lt bb.xe) && !decide (y.lt bb.y) && decide (y.lt bb.ye)) := rfl
          generalize decide (x.lt bb.x) = d1 at *
          generalize decide (x.lt bb.xe) = d2 at *
          generalize decide (y.lt bb.y) = d3 at *
          generalize decide (y.lt bb.ye) = d4 at *
          generalize bb.xe = fx at *
          generalize bb.ye = fy at *
          generalize hitB bb x y = hb at *
          have HCR := hid hcr
          clear hcr
          cases d1 with
          | true =>
            have hr : hb = false := by rw [HCR.out]; simp
            replace HCR := hid hr
            clear hr
            go_upto_region 11 with (first | (refine wp_load_bxat rfl (.tmp 33) rfl b (o + j * 15) bb rfl hrg.out ?_))
            obtain ⟨w5, hw5⟩ : ∃ w5, w5 = wr.alloc (.cells #[.int .i64 bb.nd.kind, .int .i64 bb.nd.sign, .int .i64 bb.nd.turn, .bool bb.nd.mir, .int .i64 bb.nd.state, .int .i64 bb.nd.mn, .int .i64 bb.nd.mx, .int .i64 bb.x.n, .int .i64 bb.x.d, .int .i64 bb.y.n, .int .i64 bb.y.d, .int .i64 bb.w.n, .int .i64 bb.w.d, .int .i64 bb.h.n, .int .i64 bb.h.d] 54) := ⟨_, rfl⟩
            obtain ⟨b5, hb5'⟩ : ∃ b, b = wr.heap.size := ⟨_, rfl⟩
            have HV5 := hid (show BxB w5 b5 bb by rw [hw5, hb5']; exact nw_blk rfl)
            have HB5 := hid (show Below wr.heap.size wr w5 by rw [hw5]; exact (Below.refl _ _).alloc (Nat.le_refl _) _)
            rw [← hw5]
            try rw [← hb5']
            clear hw5 hb5'
            have cz := fun z : BW w5.heap.size w5 => (HV5.out.below z.ok).cells
            have cy := fun z : BW w5.heap.size w5 => HC.out z.val (bnext0 (bnext0 HXB.out HB5.out) z.ok)
            have i7 := fun z => (cz z).k7; have i8 := fun z => (cz z).k8; have i9 := fun z => (cz z).k9; have i10 := fun z => (cz z).k10; have i11 := fun z => (cz z).k11; have i12 := fun z => (cz z).k12; have i13 := fun z => (cz z).k13; have i14 := fun z => (cz z).k14
            have j0 := fun z => (cy z).1.1; have j1 := fun z => (cy z).1.2; have j2 := fun z => (cy z).2.1; have j3 := fun z => (cy z).2.2
            clear cz cy
            have HZ1 := hid (below_class (wb := w5) (Nat.le_refl w5.heap.size) fun z => HA1.out z.val)
            refine region_below (by kernel_rfl) (by kernel_rfl) (Below.refl w5.heap.size w5) ?_
            repeat (go_big_quiet_step (first | (go_at_call 57; with_reducible exact (HZ1.out _))))
            refine wpQuiet_nil ?_
            intro _ hw'
            obtain ⟨z, rfl⟩ := hw'
            have HZB := hid (HB5.out.trans (z.ok.mono HB5.out.size))
            clear i7 i8 i9 i10 i11 i12 i13 i14 j0 j1 j2 j3
            have HO6 := hid (show z.val.ownsRow w4.heap.size 3 1 u9 H2.length (ints (nz H2)) from by rw [HJS.out, HCR.out, if_neg (by decide), List.append_nil]; exact own_keep hO.out HZB.out)
            have HB6 := hid (show Below w4.heap.size w4 z.val from bnext0 hB.out HZB.out)
            clear hO
            go_wp2_with fail
            go_roundw
            case rel => exact ⟨j + 1, by omega, by go_num, by rw [← HH2.out]; exact HO6, HB6⟩
            case measure => simp [intOf]; omega
          | false =>
            cases d2 with
            | false =>
              have hr : hb = false := by rw [HCR.out]; simp
              replace HCR := hid hr
              clear hr
              go_upto_region 11 with (first | (refine wp_load_bxat rfl (.tmp 33) rfl b (o + j * 15) bb rfl hrg.out ?_))
              obtain ⟨w5, hw5⟩ : ∃ w5, w5 = wr.alloc (.cells #[.int .i64 bb.nd.kind, .int .i64 bb.nd.sign, .int .i64 bb.nd.turn, .bool bb.nd.mir, .int .i64 bb.nd.state, .int .i64 bb.nd.mn, .int .i64 bb.nd.mx, .int .i64 bb.x.n, .int .i64 bb.x.d, .int .i64 bb.y.n, .int .i64 bb.y.d, .int .i64 bb.w.n, .int .i64 bb.w.d, .int .i64 bb.h.n, .int .i64 bb.h.d] 54) := ⟨_, rfl⟩
              obtain ⟨b5, hb5'⟩ : ∃ b, b = wr.heap.size := ⟨_, rfl⟩
              have HV5 := hid (show BxB w5 b5 bb by rw [hw5, hb5']; exact nw_blk rfl)
              have HB5 := hid (show Below wr.heap.size wr w5 by rw [hw5]; exact (Below.refl _ _).alloc (Nat.le_refl _) _)
              rw [← hw5]
              try rw [← hb5']
              clear hw5 hb5'
              have cz := fun z : BW w5.heap.size w5 => (HV5.out.below z.ok).cells
              have cy := fun z : BW w5.heap.size w5 => HC.out z.val (bnext0 (bnext0 HXB.out HB5.out) z.ok)
              have i7 := fun z => (cz z).k7; have i8 := fun z => (cz z).k8; have i9 := fun z => (cz z).k9; have i10 := fun z => (cz z).k10; have i11 := fun z => (cz z).k11; have i12 := fun z => (cz z).k12; have i13 := fun z => (cz z).k13; have i14 := fun z => (cz z).k14
              have j0 := fun z => (cy z).1.1; have j1 := fun z => (cy z).1.2; have j2 := fun z => (cy z).2.1; have j3 := fun z => (cy z).2.2
              clear cz cy
              have HZ1 := hid (below_class (wb := w5) (Nat.le_refl w5.heap.size) fun z => HA1.out z.val); have HZ2 := hid (below_class (wb := w5) (Nat.le_refl w5.heap.size) fun z => HA2.out z.val); have HZ3 := hid (below_class (wb := w5) (Nat.le_refl w5.heap.size) fun z => HA3.out z.val)
              refine region_below (by kernel_rfl) (by kernel_rfl) (Below.refl w5.heap.size w5) ?_
              repeat (go_big_quiet_step (first | (go_at_call 57; with_reducible exact (HZ1.out _)) | (go_at_call 56; with_reducible exact (HZ2.out _)) | (go_at_call 57; with_reducible exact (HZ3.out _))))
              refine wpQuiet_nil ?_
              intro _ hw'
              obtain ⟨z, rfl⟩ := hw'
              have HZB := hid (HB5.out.trans (z.ok.mono HB5.out.size))
              clear i7 i8 i9 i10 i11 i12 i13 i14 j0 j1 j2 j3
              have HO6 := hid (show z.val.ownsRow w4.heap.size 3 1 u9 H2.length (ints (nz H2)) from by rw [HJS.out, HCR.out, if_neg (by decide), List.append_nil]; exact own_keep hO.out HZB.out)
              have HB6 := hid (show Below w4.heap.size w4 z.val from bnext0 hB.out HZB.out)
              clear hO
              go_wp2_with fail
              go_roundw
              case rel => exact ⟨j + 1, by omega, by go_num, by rw [← HH2.out]; exact HO6, HB6⟩
              case measure => simp [intOf]; omega
            | true =>
              cases d3 with
              | true =>
                have hr : hb = false := by rw [HCR.out]; simp
                replace HCR := hid hr
                clear hr
                go_upto_region 11 with (first | (refine wp_load_bxat rfl (.tmp 33) rfl b (o + j * 15) bb rfl hrg.out ?_))
                obtain ⟨w5, hw5⟩ : ∃ w5, w5 = wr.alloc (.cells #[.int .i64 bb.nd.kind, .int .i64 bb.nd.sign, .int .i64 bb.nd.turn, .bool bb.nd.mir, .int .i64 bb.nd.state, .int .i64 bb.nd.mn, .int .i64 bb.nd.mx, .int .i64 bb.x.n, .int .i64 bb.x.d, .int .i64 bb.y.n, .int .i64 bb.y.d, .int .i64 bb.w.n, .int .i64 bb.w.d, .int .i64 bb.h.n, .int .i64 bb.h.d] 54) := ⟨_, rfl⟩
                obtain ⟨b5, hb5'⟩ : ∃ b, b = wr.heap.size := ⟨_, rfl⟩
                have HV5 := hid (show BxB w5 b5 bb by rw [hw5, hb5']; exact nw_blk rfl)
                have HB5 := hid (show Below wr.heap.size wr w5 by rw [hw5]; exact (Below.refl _ _).alloc (Nat.le_refl _) _)
                rw [← hw5]
                try rw [← hb5']
                clear hw5 hb5'
                have cz := fun z : BW w5.heap.size w5 => (HV5.out.below z.ok).cells
                have cy := fun z : BW w5.heap.size w5 => HC.out z.val (bnext0 (bnext0 HXB.out HB5.out) z.ok)
                have i7 := fun z => (cz z).k7; have i8 := fun z => (cz z).k8; have i9 := fun z => (cz z).k9; have i10 := fun z => (cz z).k10; have i11 := fun z => (cz z).k11; have i12 := fun z => (cz z).k12; have i13 := fun z => (cz z).k13; have i14 := fun z => (cz z).k14
                have j0 := fun z => (cy z).1.1; have j1 := fun z => (cy z).1.2; have j2 := fun z => (cy z).2.1; have j3 := fun z => (cy z).2.2
                clear cz cy
                have HZ1 := hid (below_class (wb := w5) (Nat.le_refl w5.heap.size) fun z => HA1.out z.val); have HZ2 := hid (below_class (wb := w5) (Nat.le_refl w5.heap.size) fun z => HA2.out z.val); have HZ3 := hid (below_class (wb := w5) (Nat.le_refl w5.heap.size) fun z => HA3.out z.val); have HZ4 := hid (below_class (wb := w5) (Nat.le_refl w5.heap.size) fun z => HA4.out z.val)
                refine region_below (by kernel_rfl) (by kernel_rfl) (Below.refl w5.heap.size w5) ?_
                repeat (go_big_quiet_step (first | (go_at_call 57; with_reducible exact (HZ1.out _)) | (go_at_call 56; with_reducible exact (HZ2.out _)) | (go_at_call 57; with_reducible exact (HZ3.out _)) | (go_at_call 57; with_reducible exact (HZ4.out _))))
                refine wpQuiet_nil ?_
                intro _ hw'
                obtain ⟨z, rfl⟩ := hw'
                have HZB := hid (HB5.out.trans (z.ok.mono HB5.out.size))
                clear i7 i8 i9 i10 i11 i12 i13 i14 j0 j1 j2 j3
                have HO6 := hid (show z.val.ownsRow w4.heap.size 3 1 u9 H2.length (ints (nz H2)) from by rw [HJS.out, HCR.out, if_neg (by decide), List.append_nil]; exact own_keep hO.out HZB.out)
                have HB6 := hid (show Below w4.heap.size w4 z.val from bnext0 hB.out HZB.out)
                clear hO
                go_wp2_with fail
                go_roundw
                case rel => exact ⟨j + 1, by omega, by go_num, by rw [← HH2.out]; exact HO6, HB6⟩
                case measure => simp [intOf]; omega
              | false =>
                cases d4 with
                | false =>
                  have hr : hb = false := by rw [HCR.out]; simp
                  replace HCR := hid hr
                  clear hr
                  go_upto_region 11 with (first | (refine wp_load_bxat rfl (.tmp 33) rfl b (o + j * 15) bb rfl hrg.out ?_))
                  obtain ⟨w5, hw5⟩ : ∃ w5, w5 = wr.alloc (.cells #[.int .i64 bb.nd.kind, .int .i64 bb.nd.sign, .int .i64 bb.nd.turn, .bool bb.nd.mir, .int .i64 bb.nd.state, .int .i64 bb.nd.mn, .int .i64 bb.nd.mx, .int .i64 bb.x.n, .int .i64 bb.x.d, .int .i64 bb.y.n, .int .i64 bb.y.d, .int .i64 bb.w.n, .int .i64 bb.w.d, .int .i64 bb.h.n, .int .i64 bb.h.d] 54) := ⟨_, rfl⟩
                  obtain ⟨b5, hb5'⟩ : ∃ b, b = wr.heap.size := ⟨_, rfl⟩
                  have HV5 := hid (show BxB w5 b5 bb by rw [hw5, hb5']; exact nw_blk rfl)
                  have HB5 := hid (show Below wr.heap.size wr w5 by rw [hw5]; exact (Below.refl _ _).alloc (Nat.le_refl _) _)
                  rw [← hw5]
                  try rw [← hb5']
                  clear hw5 hb5'
                  have cz := fun z : BW w5.heap.size w5 => (HV5.out.below z.ok).cells
                  have cy := fun z : BW w5.heap.size w5 => HC.out z.val (bnext0 (bnext0 HXB.out HB5.out) z.ok)
                  have i7 := fun z => (cz z).k7; have i8 := fun z => (cz z).k8; have i9 := fun z => (cz z).k9; have i10 := fun z => (cz z).k10; have i11 := fun z => (cz z).k11; have i12 := fun z => (cz z).k12; have i13 := fun z => (cz z).k13; have i14 := fun z => (cz z).k14
                  have j0 := fun z => (cy z).1.1; have j1 := fun z => (cy z).1.2; have j2 := fun z => (cy z).2.1; have j3 := fun z => (cy z).2.2
                  clear cz cy
                  have HZ1 := hid (below_class (wb := w5) (Nat.le_refl w5.heap.size) fun z => HA1.out z.val); have HZ2 := hid (below_class (wb := w5) (Nat.le_refl w5.heap.size) fun z => HA2.out z.val); have HZ3 := hid (below_class (wb := w5) (Nat.le_refl w5.heap.size) fun z => HA3.out z.val); have HZ4 := hid (below_class (wb := w5) (Nat.le_refl w5.heap.size) fun z => HA4.out z.val); have HZ5 := hid (below_class (wb := w5) (Nat.le_refl w5.heap.size) fun z => HA5.out z.val); have HZ6 := hid (below_class (wb := w5) (Nat.le_refl w5.heap.size) fun z => HA6.out z.val)
                  refine region_below (by kernel_rfl) (by kernel_rfl) (Below.refl w5.heap.size w5) ?_
                  repeat (go_big_quiet_step (first | (go_at_call 57; with_reducible exact (HZ1.out _)) | (go_at_call 56; with_reducible exact (HZ2.out _)) | (go_at_call 57; with_reducible exact (HZ3.out _)) | (go_at_call 57; with_reducible exact (HZ4.out _)) | (go_at_call 56; with_reducible exact (HZ5.out _)) | (go_at_call 57; with_reducible exact (HZ6.out _))))
                  refine wpQuiet_nil ?_
                  intro _ hw'
                  obtain ⟨z, rfl⟩ := hw'
                  have HZB := hid (HB5.out.trans (z.ok.mono HB5.out.size))
                  clear i7 i8 i9 i10 i11 i12 i13 i14 j0 j1 j2 j3
                  have HO6 := hid (show z.val.ownsRow w4.heap.size 3 1 u9 H2.length (ints (nz H2)) from by rw [HJS.out, HCR.out, if_neg (by decide), List.append_nil]; exact own_keep hO.out HZB.out)
                  have HB6 := hid (show Below w4.heap.size w4 z.val from bnext0 hB.out HZB.out)
                  clear hO
                  go_wp2_with fail
                  go_roundw
                  case rel => exact ⟨j + 1, by omega, by go_num, by rw [← HH2.out]; exact HO6, HB6⟩
                  case measure => simp [intOf]; omega
                | true =>
                  have hr : hb = true := by rw [HCR.out]; rfl
                  replace HCR := hid hr
                  clear hr
                  go_upto_region 11 with (first | (refine wp_load_bxat rfl (.tmp 33) rfl b (o + j * 15) bb rfl hrg.out ?_))
                  obtain ⟨w5, hw5⟩ : ∃ w5, w5 = wr.alloc (.cells #[.int .i64 bb.nd.kind, .int .i64 bb.nd.sign, .int .i64 bb.nd.turn, .bool bb.nd.mir, .int .i64 bb.nd.state, .int .i64 bb.nd.mn, .int .i64 bb.nd.mx, .int .i64 bb.x.n, .int .i64 bb.x.d, .int .i64 bb.y.n, .int .i64 bb.y.d, .int .i64 bb.w.n, .int .i64 bb.w.d, .int .i64 bb.h.n, .int .i64 bb.h.d] 54) := ⟨_, rfl⟩
                  obtain ⟨b5, hb5'⟩ : ∃ b, b = wr.heap.size := ⟨_, rfl⟩
                  have HV5 := hid (show BxB w5 b5 bb by rw [hw5, hb5']; exact nw_blk rfl)
                  have HB5 := hid (show Below wr.heap.size wr w5 by rw [hw5]; exact (Below.refl _ _).alloc (Nat.le_refl _) _)
                  rw [← hw5]
                  try rw [← hb5']
                  clear hw5 hb5'
                  have cz := fun z : BW w5.heap.size w5 => (HV5.out.below z.ok).cells
                  have cy := fun z : BW w5.heap.size w5 => HC.out z.val (bnext0 (bnext0 HXB.out HB5.out) z.ok)
                  have i7 := fun z => (cz z).k7; have i8 := fun z => (cz z).k8; have i9 := fun z => (cz z).k9; have i10 := fun z => (cz z).k10; have i11 := fun z => (cz z).k11; have i12 := fun z => (cz z).k12; have i13 := fun z => (cz z).k13; have i14 := fun z => (cz z).k14
                  have j0 := fun z => (cy z).1.1; have j1 := fun z => (cy z).1.2; have j2 := fun z => (cy z).2.1; have j3 := fun z => (cy z).2.2
                  clear cz cy
                  have HZ1 := hid (below_class (wb := w5) (Nat.le_refl w5.heap.size) fun z => HA1.out z.val); have HZ2 := hid (below_class (wb := w5) (Nat.le_refl w5.heap.size) fun z => HA2.out z.val); have HZ3 := hid (below_class (wb := w5) (Nat.le_refl w5.heap.size) fun z => HA3.out z.val); have HZ4 := hid (below_class (wb := w5) (Nat.le_refl w5.heap.size) fun z => HA4.out z.val); have HZ5 := hid (below_class (wb := w5) (Nat.le_refl w5.heap.size) fun z => HA5.out z.val); have HZ6 := hid (below_class (wb := w5) (Nat.le_refl w5.heap.size) fun z => HA6.out z.val)
                  refine region_below (by kernel_rfl) (by kernel_rfl) (Below.refl w5.heap.size w5) ?_
                  repeat (go_big_quiet_step (first | (go_at_call 57; with_reducible exact (HZ1.out _)) | (go_at_call 56; with_reducible exact (HZ2.out _)) | (go_at_call 57; with_reducible exact (HZ3.out _)) | (go_at_call 57; with_reducible exact (HZ4.out _)) | (go_at_call 56; with_reducible exact (HZ5.out _)) | (go_at_call 57; with_reducible exact (HZ6.out _))))
                  refine wpQuiet_nil ?_
                  intro _ hw'
                  obtain ⟨z, rfl⟩ := hw'
                  have HZB := hid (HB5.out.trans (z.ok.mono HB5.out.size))
                  clear i7 i8 i9 i10 i11 i12 i13 i14 j0 j1 j2 j3
                  have HO5 := hid fun X : Obj => own_keep hO.out (HZB.out.alloc HZB.out.size X)
                  have HEE := hid (show ints (nz H1) ++ [.int .i64 (j : Int)] = ints (nz H2) ∧ H1.length + 1 = H2.length from by rw [HJS.out, HCR.out, if_pos rfl]; exact ⟨by unfold nz ints; simp, by simp⟩)
                  have HBX := hid fun X : Obj => (show Below w4.heap.size w4 (z.val.alloc X) from bnext0 hB.out (HZB.out.alloc HZB.out.size X))
                  clear hO
                  go_wp2_with (first | (at_builtin; go_loud (refine app_elemF rfl (.tmp 65) (.tmp 67) Try.underlying65 Try.infoInt rfl (by decide) (by decide) rfl w4.heap.size _ H1.length (ints (nz H1)) rfl (HO5.out _) ⟨z.val.heap.size, 0, none⟩ [.int .i64 (j : Int)] rfl rfl one_in (fun u hu => by rw [List.mem_singleton.1 hu]; rfl) (by omega) (HBX.out _).size ?_); intro v6 w6 ho6 hg6 hf6; rw [HEE.out.1, HEE.out.2] at ho6; have HO6 := hid ho6; have HB6 := hid (below_app (HBX.out _) (HO5.out _) hg6 (Nat.le_refl _) (HBX.out _).size); clear ho6 hg6 hf6))
                  go_roundw
                  case rel => exact ⟨j + 1, by omega, by go_num, by rw [← HH2.out]; exact HO6, HB6⟩
                  case measure => simp [intOf]; omega
        · obtain rfl : j = n := by omega
          have q0 : decide ((j : Int) < (j : Int)) = false := by simp
          go_wp2_with fail
          exact HPO.out _ _ u9 rfl (own_down hO.out (by have := HB1.out.size; have := HB4.out.size; omega)) (HB1.out.trans (Below.mono (bnext0 HB4.out hB.out) HB1.out.size))
end Go.Proofs.Ytfkcpcdndleboaa
