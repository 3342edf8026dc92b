/- WALK: layout.figure (printed by gen_figr.py). -/
import Derived.Test.YtimblabaeclhpaaGreatKidF
namespace Go.Proofs.YtimblabaeclhpaaGreat
open Go.RowKit
theorem wrapI {x : Int} (h1 : -9223372036854775808 ≤ x) (h2 : x ≤ 9223372036854775807) : IntKind.i64.wrap x = x := by
  rw [IntKind.wrap_i64]
  omega
set_option maxRecDepth 100000 in
set_option maxHeartbeats 8000000 in
theorem fig_step (P : Int) (ss : List Sg) (l : List Nd) (rows : Bool) (hp : Pln P ss l) (hsl : ss.length ≤ 1000000) (hsv : ∀ s ∈ ss, s.vals.length ≤ 1000000 ∧ s.vals.length ≤ s.vc) (f i : Nat) (hi : i < l.length) (ih : ∀ k, i < k → k < l.length → FigOk P ss l rows f k) : FigOk P ss l rows (f + 1) i := by
  intro A A2 c c2 w rs rn
  have hn : l.length ≤ 1000000 := by have := hp.len; omega
  obtain ⟨b, o, rfl, hbB, hc⟩ := rn.at (by omega)
  have hx := hc i hi
  have hkr := own_zero hi (hp.val.1 i hi)
  have h7 := hp.no7 i hi
  have hkd : kd l i = (nd l i).kind := by rw [nd_at hi, kd_at hi]
  have hdd : dep l i = (nd l i).depth := by rw [nd_at hi, dep_at hi]
  have hLK := fun (hi : i < l.length) (W : World) (h1 : Sgs W W.heap.size A ss) (h2 : Nds W W.heap.size (some ⟨b, o, none⟩) l) => lkids_any P ss l rows hn f i hi ih A (some ⟨b, o, none⟩) c c2 W h1 h2
  have hIN := fun (h5 : kd l i = 5) (W : World) (h1 : Sgs W W.heap.size A ss) (h2 : Nds W W.heap.size (some ⟨b, o, none⟩) l) => linside_any P ss l rows hn f i hi h5 ih A (some ⟨b, o, none⟩) c c2 W h1 h2
  have hLE := fun (k : Nat) (hk : k < l.length) (h1 : leafB (kd l k) = true) (W : World) (r1 : Sgs W W.heap.size A ss) (r2 : Nds W W.heap.size (some ⟨b, o, none⟩) l) => lleaf_any P ss l rows hp.list hsl hsv hn k hk (by rw [nd_at hk, ← kd_at hk]; exact h1) (own_leaf hp.val hk).1 (own_leaf hp.val hk).2 A (some ⟨b, o, none⟩) c c2 W r1 r2
  have hov := fun h4 => over_kids hp.val hi h4
  have hfig := fun (ok : Nat → Prop) (W : World) (v : Value) => (show FigAt ss l rows ok W (f + 1) i v = _ from by unfold FigAt; exact rfl)
  have hacr : acr rows (nd l i) = (decide ((nd l i).kind = 2) || (decide ((nd l i).kind = 5) && rows)) := rfl
  have hspc : spcOf (nd l i) = if (nd l i).kind = 5 then 20 else 4 * (5 - (nd l i).depth) := rfl
  rw [hkd, hdd] at hkr
  rw [hkd] at h7 hIN hov hfig
  have hFA := fun (h23 : (nd l i).kind = 2 ∨ (nd l i).kind = 3) (B : Nat) (W : World) (A3 : Option Addr) (c3 : Nat) (h : FigS ss l rows f B (kidsOf l (i : Int)) (.slice A3 (kidsOf l (i : Int)).length c3) W) => (show FigAt ss l rows (newB B W) W (f + 1) i (.iface (if (nd l i).kind = 2 then 139 else 140) (.agg #[.slice A3 (kidsOf l (i : Int)).length c3, .int .i64 (4 * (5 - (nd l i).depth))])) from by
    rw [hfig, if_neg (by unfold leafB; simp; omega), if_neg (by omega), if_neg (by omega)]
    refine h.rowF ?_ (by rw [hspc, if_neg (by omega)])
    rw [hacr]
    rcases h23 with h23 | h23 <;> simp [h23])
  have hFR := fun (h5 : (nd l i).kind = 5) (B : Nat) (W : World) (u : Value) (h : RowF (newB B W) W (FigAt ss l rows (newB B W) W f) l rows i u) => (show FigAt ss l rows (newB B W) W (f + 1) i (.iface 147 (.agg #[.int .i64 i, u])) from by
    rw [hfig, if_neg (by unfold leafB; simp; omega), if_neg (by omega), if_pos h5]
    exact ⟨u, h, rfl⟩)
  have hFO := fun (h4 : (nd l i).kind = 4) (ok : Nat → Prop) (W : World) => (show FigAt ss l rows ok W (f + 1) i (.iface 145 (.agg #[.int .i64 ((i : Int) + 1), .int .i64 (leafSz ss (nd l (i + 1))).1, .int .i64 (leafSz ss (nd l (i + 1))).2, .int .i64 ((i : Int) + 2), .int .i64 (leafSz ss (nd l (i + 2))).1, .int .i64 (leafSz ss (nd l (i + 2))).2])) from by
    rw [hfig, if_neg (by unfold leafB; simp; omega), if_pos h4])
  have hFL := fun (h1 : leafB (nd l i).kind = true) (ok : Nat → Prop) (W : World) => (show FigAt ss l rows ok W (f + 1) i (.iface 142 (.agg #[.int .i64 i, .int .i64 (leafSz ss (nd l i)).1, .int .i64 (leafSz ss (nd l i)).2])) from by
    rw [hfig, if_pos h1]; rfl)
  have hLI := fun (h1 : leafB (nd l i).kind = true) => hLE i hi (by rw [hkd]; exact h1)
  have hO1 := fun (h4 : (nd l i).kind = 4) => hLE (i + 1) (by have := (hov h4).2.1; omega) (by rw [(hov h4).2.2.1]; rfl)
  have hO2 := fun (h4 : (nd l i).kind = 4) => hLE (i + 2) (hov h4).2.1 (by rw [(hov h4).2.2.2]; rfl)
  rw [← nd_at hi] at hx
  clear hLE hov hfig hacr hspc hkd hdd ih
  generalize leafSz ss (nd l i) = z at hFL hLI
  generalize nd l i = g at hx hkr h7 hIN hFA hFR hFO hFL hLI hO1 hO2
  generalize leafSz ss (nd l (i + 1)) = z1 at hFO hO1
  generalize leafSz ss (nd l (i + 2)) = z2 at hFO hO2
  obtain ⟨kk, dp, sg0, tn, mi, st, mn, mx⟩ := g
  have d1 := hx.kind; have d2 := hx.depth; have d3 := hx.sign; have d4 := hx.turn; have d5 := hx.mir; have d6 := hx.state; have d7 := hx.mn; have d8 := hx.mx
  simp only [] at d1 d2 d3 d4 d5 d6 d7 d8 hkr h7 hIN hFA hFR hFO hFL hLI hO1 hO2
  obtain ⟨w1, hw1⟩ : ∃ w1, w1 = (w.alloc (.cells #[.int .i64 P, .slice A ss.length c, .slice (some ⟨b, o, none⟩) l.length c2, .bool rows] 69)).alloc (.cells #[.int .i64 kk, .int .i64 dp, .int .i64 sg0, .int .i64 tn, .bool mi, .int .i64 st, .int .i64 mn, .int .i64 mx] 67) := ⟨_, rfl⟩
  have hb1 : Below w.heap.size w w1 := by rw [hw1]; exact ((Below.refl _ _).alloc (Nat.le_refl _) _).alloc (by simp) _
  have hz1 : w1.heap.size = w.heap.size + 2 := by rw [hw1]; simp
  have c0 : w1.cell? ⟨w.heap.size, 0, none⟩ = some (.int .i64 P) := by rw [hw1]; exact cell_old (cell_here rfl rfl)
  have c1 : w1.cell? ⟨w.heap.size, 1, none⟩ = some (.slice A ss.length c) := by rw [hw1]; exact cell_old (cell_here rfl rfl)
  have c2' : w1.cell? ⟨w.heap.size, 2, none⟩ = some (.slice (some ⟨b, o, none⟩) l.length c2) := by rw [hw1]; exact cell_old (cell_here rfl rfl)
  have c3 : w1.cell? ⟨w.heap.size, 3, none⟩ = some (.bool rows) := by rw [hw1]; exact cell_old (cell_here rfl rfl)
  have c4 : w1.cell? ⟨w.heap.size + 1, 1, none⟩ = some (.int .i64 dp) := by rw [hw1]; exact cell_here (by simp) rfl
  have c5 : w1.cell? ⟨w.heap.size + 1, 0, none⟩ = some (.int .i64 kk) := by rw [hw1]; exact cell_here (by simp) rfl
  have HC := hid fun (W : World) (h : Below w1.heap.size w1 W) => (show (W.cell? ⟨w.heap.size, 0, none⟩ = some (.int .i64 P) ∧ W.cell? ⟨w.heap.size, 1, none⟩ = some (.slice A ss.length c) ∧ W.cell? ⟨w.heap.size, 2, none⟩ = some (.slice (some ⟨b, o, none⟩) l.length c2) ∧ W.cell? ⟨w.heap.size, 3, none⟩ = some (.bool rows)) ∧ W.cell? ⟨w.heap.size + 1, 1, none⟩ = some (.int .i64 dp) from
    ⟨⟨(h.cell (by show w.heap.size < _; omega)).trans c0, (h.cell (by show w.heap.size < _; omega)).trans c1, (h.cell (by show w.heap.size < _; omega)).trans c2', (h.cell (by show w.heap.size < _; omega)).trans c3⟩, (h.cell (by show w.heap.size + 1 < _; omega)).trans c4⟩)
  have HRN := hid fun (W : World) (h : Below w1.heap.size w1 W) => (show Nds W W.heap.size (some ⟨b, o, none⟩) l from Reads.more (rn.below (hb1.trans (h.mono hb1.size))) (Nat.le_trans hb1.size h.size))
  have HRS := hid fun (W : World) (h : Below w1.heap.size w1 W) => (show Sgs W W.heap.size A ss from (rs.below (hb1.trans (h.mono hb1.size))).more (Nat.le_trans hb1.size h.size))
  have HLK := hid fun (W : World) (h : Below w1.heap.size w1 W) => (hLK hi W (HRS.out W h) (HRN.out W h)).mono fun (e : Ending) (w' : World) ⟨v, e1, e2, e3⟩ => (show ∃ v : Value, e = Ending.returned v ∧ FigS ss l rows f w.heap.size (kidsOf l (i : Int)) v w' ∧ Below w1.heap.size w1 w' from ⟨v, e1, e2.less (Nat.le_trans hb1.size h.size), bnext0 h e3⟩)
  have HIN := hid fun (h5 : kk = 5) => (hIN h5 w1 (HRS.out w1 (Below.refl _ _)) (HRN.out w1 (Below.refl _ _))).mono fun (e : Ending) (w' : World) ⟨v, e1, e2, e3⟩ => (show ∃ v : Value, e = Ending.returned v ∧ (∃ T r, v = Value.iface T r) ∧ FigAt ss l rows (newB w.heap.size w') w' (f + 1) i (.iface 147 (.agg #[.int .i64 i, v])) ∧ Below w1.heap.size w1 w' from
    ⟨v, e1, by obtain ⟨_, _, _, h, _⟩ := e2; exact ⟨_, _, h⟩, by
    have hok : ∀ b, newB w1.heap.size w' b → newB w.heap.size w' b := fun b h => ⟨Nat.le_trans hb1.size h.1, h.2⟩
    exact hFR h5 _ _ _ (e2.imp (fun _ _ => rfl) hok fun k _ u hu => FigAt.keep (fun _ _ => rfl) hok _ _ _ hu), e3⟩)
  have HLI := hid fun (h1 : leafB kk = true) => hLI h1 w1 (HRS.out w1 (Below.refl _ _)) (HRN.out w1 (Below.refl _ _))
  have HO1 := hid fun (h4 : kk = 4) (W : World) (h : Below w1.heap.size w1 W) => (show Calls Tryz.prog 63 #[.agg #[.int .i64 P, .slice A ss.length c, .slice (some ⟨b, o, none⟩) l.length c2, .bool rows], .int .i64 ((i : Int) + 1)] W _ from hO1 h4 W (HRS.out W h) (HRN.out W h)).mono fun (e : Ending) (w' : World) ⟨e1, e2⟩ => (show e = Ending.returned (Value.agg #[.int .i64 ((i : Int) + 1), .int .i64 z1.1, .int .i64 z1.2]) ∧ Below w1.heap.size w1 w' from ⟨e1, bnext0 h e2⟩)
  have HO2 := hid fun (h4 : kk = 4) (W : World) (h : Below w1.heap.size w1 W) => (show Calls Tryz.prog 63 #[.agg #[.int .i64 P, .slice A ss.length c, .slice (some ⟨b, o, none⟩) l.length c2, .bool rows], .int .i64 ((i : Int) + 2)] W _ from hO2 h4 W (HRS.out W h) (HRN.out W h)).mono fun (e : Ending) (w' : World) ⟨e1, e2⟩ => (show e = Ending.returned (Value.agg #[.int .i64 ((i : Int) + 2), .int .i64 z2.1, .int .i64 z2.2]) ∧ Below w1.heap.size w1 w' from ⟨e1, bnext0 h e2⟩)
  have HFA := hid hFA; have HFO := hid hFO; have HFL := hid hFL
  obtain ⟨m, hm⟩ : ∃ m, m = (kidsOf l (i : Int)).length := ⟨_, rfl⟩
  rw [← hm] at HFA
  have HM := hid hm
  have HSP := hid fun (W : World) => space_any dp hkr.2.1.1 hkr.2.1.2 W
  have hkk : kk = 2 ∨ kk = 3 ∨ kk = 4 ∨ kk = 5 ∨ (leafB kk = true ∧ (kk = 1 ∨ kk = 6)) := by
    have h1 := hkr.1
    unfold leafB
    simp
    omega
  have q9 := hn
  clear hLK hIN hLI hO1 hO2 hFA hFR hFO hFL HRN HRS rs rn hx hkr h7 hm hc hp hsv hsl hn hz1
  generalize l.length = n at *
  generalize ss.length = N at *
  have HW1 := hid hw1; have HB1 := hid hb1
  have q5 : (i : Int) < (n : Int) := by omega
  clear hw1 hb1
  go_enter Tryz.func41, Tryz.ntmps41
  go_upto_region 2 with (fail)
  rw [← HW1.out]
  clear HW1 d1 d2 d3 d4 d5 d6 d7 d8
  obtain ⟨B0, hB0⟩ : ∃ B0, B0 = w.heap.size := ⟨_, rfl⟩
  obtain ⟨B1, hB1⟩ : ∃ B1, B1 = B0 + 1 := ⟨_, rfl⟩
  rw [← hB0] at HC HLK HIN c0 c1 c2' c3 c4 c5
  rw [← hB1] at HC c4 c5
  rw [← hB0, ← hB1]
  have HB0 := hid hB0
  clear hB0 hB1
  rcases hkk with h2 | h3 | h4 | h5 | ⟨h1, h16⟩
  · -- kind 2
    obtain rfl : kk = 2 := by omega
    clear HLI HIN HO1 HO2 HFO HFL
    obtain ⟨⟨q0, q1, q2, q3⟩, q4⟩ := HC.out w1 (Below.refl _ _)
    go_wp2_with fail
    go_region_held3 (fun w' => (w'.cell? ⟨B0, 0, none⟩ = some (.int .i64 P) ∧ w'.cell? ⟨B0, 1, none⟩ = some (.slice A N c) ∧ w'.cell? ⟨B0, 2, none⟩ = some (.slice (some ⟨b, o, none⟩) n c2) ∧ w'.cell? ⟨B0, 3, none⟩ = some (.bool rows)) ∧ w'.cell? ⟨B1, 1, none⟩ = some (.int .i64 dp)) (first | exact ⟨⟨q0, q1, q2, q3⟩, q4⟩ | exact HC.out _ (by first | exact HXB.out | exact HXA.out | exact (Below.refl _ _).drew | exact Below.refl _ _) | fail) (first | (go_at_call 61; refine (HLK.out _ (by first | exact HXB.out | exact HXA.out | exact (Below.refl _ _).drew | exact Below.refl _ _)).mono ?_; rintro e wk ⟨v, rfl, hf, hbk⟩; obtain ⟨A3, c4, rfl, _⟩ := hf.row; rw [← HM.out] at hf; rw [← HM.out]; have HF := hid hf; have HXA := hid hbk; clear hf hbk) | (go_at_call 62; refine (HSP.out _).mono ?_; rintro e ws ⟨rfl, hbs⟩; (first | (have HF := hid (HF.out.below hbs); skip) | skip); have HXB := hid (show Below w1.heap.size w1 ws from bnext0 (by first | exact HXB.out | exact HXA.out | exact (Below.refl _ _).drew | exact Below.refl _ _) hbs); clear hbs))
    all_goals
      go_wp2_with fail
      go_ret
      have hfa := HFA.out (by decide) _ _ _ _ HF.out
      rw [if_pos (by trivial)] at hfa
      exact ⟨_, rfl, by rw [← HB0.out]; exact hfa, HB1.out.trans (Below.mono (by first | exact HXB.out | exact HXA.out | exact (Below.refl _ _).drew | exact Below.refl _ _) HB1.out.size)⟩
  · -- kind 3
    obtain rfl : kk = 3 := by omega
    clear HLI HIN HO1 HO2 HFO HFL
    obtain ⟨⟨q0, q1, q2, q3⟩, q4⟩ := HC.out w1 (Below.refl _ _)
    go_wp2_with fail
    go_region_held3 (fun w' => (w'.cell? ⟨B0, 0, none⟩ = some (.int .i64 P) ∧ w'.cell? ⟨B0, 1, none⟩ = some (.slice A N c) ∧ w'.cell? ⟨B0, 2, none⟩ = some (.slice (some ⟨b, o, none⟩) n c2) ∧ w'.cell? ⟨B0, 3, none⟩ = some (.bool rows)) ∧ w'.cell? ⟨B1, 1, none⟩ = some (.int .i64 dp)) (first | exact ⟨⟨q0, q1, q2, q3⟩, q4⟩ | exact HC.out _ (by first | exact HXB.out | exact HXA.out | exact (Below.refl _ _).drew | exact Below.refl _ _) | fail) (first | (go_at_call 61; refine (HLK.out _ (by first | exact HXB.out | exact HXA.out | exact (Below.refl _ _).drew | exact Below.refl _ _)).mono ?_; rintro e wk ⟨v, rfl, hf, hbk⟩; obtain ⟨A3, c4, rfl, _⟩ := hf.row; rw [← HM.out] at hf; rw [← HM.out]; have HF := hid hf; have HXA := hid hbk; clear hf hbk) | (go_at_call 62; refine (HSP.out _).mono ?_; rintro e ws ⟨rfl, hbs⟩; (first | (have HF := hid (HF.out.below hbs); skip) | skip); have HXB := hid (show Below w1.heap.size w1 ws from bnext0 (by first | exact HXB.out | exact HXA.out | exact (Below.refl _ _).drew | exact Below.refl _ _) hbs); clear hbs))
    all_goals
      go_wp2_with fail
      go_ret
      have hfa := HFA.out (by decide) _ _ _ _ HF.out
      rw [if_neg (by decide)] at hfa
      exact ⟨_, rfl, by rw [← HB0.out]; exact hfa, HB1.out.trans (Below.mono (by first | exact HXB.out | exact HXA.out | exact (Below.refl _ _).drew | exact Below.refl _ _) HB1.out.size)⟩
  · -- kind 4
    obtain rfl : kk = 4 := by omega
    have w1' : IntKind.i64.wrap ((i : Int) + 1) = (i : Int) + 1 := wrapI (by omega) (by omega)
    have w2' : IntKind.i64.wrap ((i : Int) + 2) = (i : Int) + 2 := wrapI (by omega) (by omega)
    have HA1 := hid (HO1.out rfl); have HA2 := hid (HO2.out rfl)
    have hfo := HFO.out rfl
    rw [← w1'] at HA1
    rw [← w2'] at HA2
    rw [← w1', ← w2'] at hfo
    have HFO2 := hid hfo
    clear w1' w2' hfo
    clear HLI HIN HLK HSP HFA HO1 HO2
    obtain ⟨⟨q0, q1, q2, q3⟩, q4⟩ := HC.out w1 (Below.refl _ _)
    go_wp2_with fail
    go_region_held3 (fun w' => (w'.cell? ⟨B0, 0, none⟩ = some (.int .i64 P) ∧ w'.cell? ⟨B0, 1, none⟩ = some (.slice A N c) ∧ w'.cell? ⟨B0, 2, none⟩ = some (.slice (some ⟨b, o, none⟩) n c2) ∧ w'.cell? ⟨B0, 3, none⟩ = some (.bool rows)) ∧ w'.cell? ⟨B1, 1, none⟩ = some (.int .i64 dp)) (first | exact ⟨⟨q0, q1, q2, q3⟩, q4⟩ | exact HC.out _ (by first | exact HXB.out | exact HXA.out | exact (Below.refl _ _).drew | exact Below.refl _ _) | fail) (first | (go_at_call 63; with_reducible refine (HA1.out _ (by first | exact HXB.out | exact HXA.out | exact (Below.refl _ _).drew | exact Below.refl _ _)).mono ?_; rintro e wk ⟨rfl, hbk⟩; have HXA := hid hbk; clear hbk) | (go_at_call 63; with_reducible refine (HA2.out _ (by first | exact HXA.out | exact HXB.out | exact (Below.refl _ _).drew | exact Below.refl _ _)).mono ?_; rintro e ws ⟨rfl, hbs⟩; have HXB := hid hbs; clear hbs))
    all_goals
      go_wp2_with fail
      go_ret
      exact ⟨_, rfl, HFO2.out _ _, HB1.out.trans (Below.mono (by first | exact HXB.out | exact HXA.out) HB1.out.size)⟩
  · -- kind 5
    obtain rfl : kk = 5 := by omega
    have HI := hid (HIN.out rfl)
    clear HLI HIN HLK HSP HFA HO1 HO2 HFO HFL
    go_wp2_with (first | (go_at_call 64; refine HI.out.mono ?_; rintro e w2 ⟨v, rfl, ⟨T, r, rfl⟩, hf, hb2⟩; have HF := hid hf; have HB2 := hid hb2; clear hf hb2 c0 c1 c2' c3 c4 c5))
    go_ret
    exact ⟨_, rfl, by rw [← HB0.out]; exact HF.out, HB1.out.trans (Below.mono HB2.out HB1.out.size)⟩
  · -- leaves
    have HI := hid (HLI.out h1)
    have HX := hid (HFL.out h1)
    clear HLI HIN HLK HSP HFA HO1 HO2 HFO HFL h1
    have e2 : (kk == 2) = false := by rcases h16 with rfl | rfl <;> rfl
    have e3 : (kk == 3) = false := by rcases h16 with rfl | rfl <;> rfl
    have e4 : (kk == 4) = false := by rcases h16 with rfl | rfl <;> rfl
    have e5 : (kk == 5) = false := by rcases h16 with rfl | rfl <;> rfl
    go_wp2_with (first | (go_at_call 63; refine HI.out.mono ?_; rintro e w2 ⟨rfl, hb2⟩; have HB2 := hid hb2; clear hb2 c0 c1 c2' c3 c4 c5))
    go_ret
    exact ⟨_, rfl, HX.out _ _, HB1.out.trans (Below.mono HB2.out HB1.out.size)⟩
/-- The figure of a node. -/
theorem figure_any (P : Int) (ss : List Sg) (l : List Nd) (rows : Bool) (hp : Pln P ss l) (hsl : ss.length ≤ 1000000) (hsv : ∀ s ∈ ss, s.vals.length ≤ 1000000 ∧ s.vals.length ≤ s.vc) : ∀ (f i : Nat), i < l.length → l.length ≤ f + i → FigOk P ss l rows f i
  | 0, i, h, h1 => by omega
  | f + 1, i, hi, hf => fig_step P ss l rows hp hsl hsv f i hi fun k h1 h2 => figure_any P ss l rows hp hsl hsv f k h2 (by omega)
end Go.Proofs.YtimblabaeclhpaaGreat
