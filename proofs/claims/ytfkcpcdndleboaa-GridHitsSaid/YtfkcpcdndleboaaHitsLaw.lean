/- WALK: the law GridHits (printed by gen_l_hits.py). -/
import Derived.Test.YtfkcpcdndleboaaHitW
import Derived.Test.YtfkcpcdndleboaaCrossingW
import Derived.Test.YtfkcpcdndleboaaKidsLaw
namespace Go.Proofs.Ytfkcpcdndleboaa
open Go.RowKit
theorem flatB_oneC {L : List Bxv} {u : Value} (h : u ∈ flatB L) : u.oneCell' = true := by
  unfold flatB at h
  obtain ⟨n, _, h2⟩ := List.mem_flatMap.1 h
  simp only [bxC, List.mem_cons, List.not_mem_nil, or_false] at h2
  rcases h2 with rfl | rfl | rfl | rfl | rfl | rfl | rfl | rfl | rfl | rfl | rfl | rfl | rfl | rfl | rfl <;> rfl
set_option maxRecDepth 100000 in
set_option maxHeartbeats 1000000 in
theorem copied_any (L : List Bxv) (A : Option Addr) (c : Nat) (hl : L.length ≤ 1000000) (w : World) (r : Bxs w w.heap.size A L) :
    Calls Try.prog 37 #[.slice A L.length c] w fun e w' => ∃ A' c', e = .returned (.slice A' L.length c') ∧ Bxs w' w'.heap.size A' L ∧ Below w.heap.size w w' := by
  obtain ⟨n, hn⟩ : ∃ n, n = L.length := ⟨_, rfl⟩
  obtain ⟨w1, hw1⟩ : ∃ w1, w1 = w.alloc (.cells #[] 54) := ⟨_, rfl⟩
  have hb1 : Below w.heap.size w w1 := by rw [hw1]; exact (Below.refl _ _).alloc (Nat.le_refl _) _
  have ho : w1.ownsRow w.heap.size 54 15 (.slice (some ⟨w.heap.size, 0, none⟩) 0 0) 0 [] := by
    rw [hw1]
    have := own_lit w (B := w.heap.size) 54 #[] (n := 0) (size := 15) (Nat.le_refl _) rfl (by decide)
    simpa using this
  have hr1 : Reads w1 w.heap.size 15 A n (flatB L) := by rw [hn]; exact Reads.below r hb1
  have HOUT := hid fun (w6 : World) (A6 : Option Addr) (c6 : Nat) (h : w6.ownsRow w.heap.size 54 15 (.slice A6 n c6) n (flatB L)) => (show Bxs w6 w6.heap.size A6 L from by unfold Bxs; rw [← hn]; exact Reads.of_own h)
  rw [← hn] at hl ⊢
  have HW1 := hid hw1; have HB1 := hid hb1; have HO := hid ho; have HR := hid hr1
  clear hw1 hb1 ho hr1 r hn
  go_enter Try.func37, Try.ntmps37
  go_wp2_with (first | (at_builtin; rw [← HW1.out]; refine app_rdS rfl (.tmp 3) (.tmp 4) Try.underBoxes Try.infoBox rfl (by decide) (by decide) rfl w.heap.size _ 0 [] rfl HO.out A n c w.heap.size (flatB L) rfl HR.out (fun u hu => flatB_oneC hu) (by omega) HB1.out.size ?_; intro v6 w6 ho6 hg6; rw [Nat.zero_add, List.nil_append] at ho6; have HB6 := hid (below_app HB1.out HO.out hg6 (Nat.le_refl _) HB1.out.size); obtain ⟨A6, c6, rfl⟩ := own_slice ho6; have HO6 := hid ho6; clear ho6 hg6))
  go_ret
  exact ⟨A6, c6, rfl, HOUT.out _ _ _ HO6.out, HB6.out⟩
def Prs (w : World) (B : Nat) (A : Option Addr) (L : List (Nat × Nat)) : Prop := Reads w B 2 A L.length (flatP L)
theorem flatP_len (L : List (Nat × Nat)) : (flatP L).length = L.length * 2 := by
  induction L with
  | nil => rfl
  | cons x L ih => unfold flatP at ih ⊢; rw [List.flatMap_cons, List.length_append, ih, List.length_cons]; unfold prC; simp; omega
theorem flatP_get : ∀ (L : List (Nat × Nat)) (k j : Nat) (hk : k < L.length), j < 2 → (flatP L)[k * 2 + j]? = (prC L[k])[j]?
  | g :: L, 0, j, _, hj => by
    unfold flatP
    rw [List.flatMap_cons, List.getElem?_append_left (by unfold prC; simp; omega)]
    simp
  | g :: L, k + 1, j, hk, hj => by
    have ih := flatP_get L k j (by simpa using hk) hj
    unfold flatP at ih ⊢
    rw [List.flatMap_cons, List.getElem?_append_right (by unfold prC; simp; omega), List.getElem_cons_succ, ← ih]
    congr 1
    unfold prC
    simp
    omega
theorem Prs.at {w : World} {B : Nat} {A : Option Addr} {L : List (Nat × Nat)} (h : Prs w B A L) (hl : 0 < L.length) : ∃ b o, A = some ⟨b, o, none⟩ ∧ b < B ∧ ∀ j (hj : j < L.length), w.cell? ⟨b, o + j * 2, none⟩ = some (.int .i64 (L[j]).1) ∧ w.cell? ⟨b, o + j * 2 + 1, none⟩ = some (.int .i64 (L[j]).2) := by
  obtain ⟨b, o, rfl, hb, hc⟩ := Reads.at0 h hl (by rw [flatP_len]; omega)
  refine ⟨b, o, rfl, hb, fun j hj => ⟨?_, ?_⟩⟩
  · have h1 := hc (j * 2 + 0) _ ((flatP_get L j 0 hj (by omega)).trans rfl)
    rwa [Nat.add_zero] at h1
  · have h1 := hc (j * 2 + 1) _ ((flatP_get L j 1 hj (by omega)).trans rfl)
    rwa [← Nat.add_assoc] at h1
set_option maxRecDepth 100000 in
set_option maxHeartbeats 4000000 in
theorem hits_law (L : List Bxv) (x y : Fr) (A : Option Addr) (c : Nat) (hl : L.length ≤ 9223372036854775807) (w : World) (r : Bxs w w.heap.size A L) :
    Calls Try.prog 9 #[.slice A L.length c, .agg #[.int .i64 x.n, .int .i64 x.d], .agg #[.int .i64 y.n, .int .i64 y.d]] w fun e w' => e = .returned (.bool true) ∧ Below w.heap.size w w' := by
  obtain ⟨w1, hw1⟩ : ∃ w1, w1 = (w.alloc (.cells #[.int .i64 x.n, .int .i64 x.d] 52)).alloc (.cells #[.int .i64 y.n, .int .i64 y.d] 52) := ⟨_, rfl⟩
  have hb1 : Below w.heap.size w w1 := by rw [hw1]; exact ((Below.refl _ _).alloc (Nat.le_refl _) _).alloc (by simp) _
  have h0 : FrB w1 w.heap.size x := by rw [hw1]; exact old_blk (nw_blk rfl)
  have h1 : FrB w1 (w.heap.size + 1) y := by rw [hw1]; exact nw_blk (by simp)
  have HC := hid fun (W : World) (h : Below w1.heap.size w1 W) => (show (W.cell? ⟨w.heap.size, 0, none⟩ = some (.int .i64 x.n) ∧ W.cell? ⟨w.heap.size, 1, none⟩ = some (.int .i64 x.d)) ∧ W.cell? ⟨w.heap.size + 1, 0, none⟩ = some (.int .i64 y.n) ∧ W.cell? ⟨w.heap.size + 1, 1, none⟩ = some (.int .i64 y.d) from ⟨(h0.below h).cells.1, (h1.below h).cells.1⟩)
  have HRB := hid fun (W : World) (h : Below w1.heap.size w1 W) => (show Bxs W W.heap.size A L from (r.below (hb1.trans (h.mono hb1.size))).more (Nat.le_trans hb1.size h.size))
  have HWK := hid fun W : World => works_any W
  have HCP := hid fun (h : L.length ≤ 1000000) (W : World) (hW : Below w1.heap.size w1 W) => copied_any L A c h W (HRB.out W hW)
  have HIT := hid fun (h : L.length ≤ 1000000) (A1 : Option Addr) (c1 : Nat) (W : World) (hW : Bxs W W.heap.size A1 L) => (hit_any L x y A1 c1 h W hW).mono fun (e : Ending) (w' : World) ⟨v, e1, e2, e3⟩ => (show ∃ (A7 : Option Addr) (c7 : Nat), e = Ending.returned (.tuple #[.slice A7 (nz (hitL L x y)).length c7, .int .i64 (hitE L x y)]) ∧ Rd w' w'.heap.size A7 (nz (hitL L x y)) ∧ Below W.heap.size W w' from by
    obtain ⟨A7, c7, rfl⟩ := own_slice e2
    exact ⟨A7, c7, by rw [nz_len]; exact e1, by unfold Rd; rw [nz_len]; exact Reads.of_own e2, e3⟩)
  have HIR := hid fun (h : L.length ≤ 1000000) (W : World) (hW : Below w1.heap.size w1 W) => (hitR_any L x y A c h W (HRB.out W hW)).mono fun (e : Ending) (w' : World) ⟨v, e1, e2, e3⟩ => (show ∃ (A7 : Option Addr) (c7 : Nat), e = Ending.returned (.tuple #[.slice A7 (nz (hitL L x y)).length c7, .int .i64 (hitE L x y)]) ∧ Rd w' w'.heap.size A7 (nz (hitL L x y)) ∧ Below W.heap.size W w' from by
    obtain ⟨A7, c7, rfl⟩ := own_slice e2
    exact ⟨A7, c7, by rw [nz_len]; exact e1, by unfold Rd; rw [nz_len]; exact Reads.of_own e2, e3⟩)
  have HCX := hid fun (h : L.length ≤ 1000000) (A1 : Option Addr) (c1 : Nat) (W : World) (hW : Bxs W W.heap.size A1 L) => (crossing_any L A1 c1 h W hW).mono fun (e : Ending) (w' : World) ⟨v, e1, e2, e3⟩ => (show ∃ (A7 : Option Addr) (c7 : Nat), e = Ending.returned (.tuple #[.slice A7 (crP L).length c7, .int .i64 (chB L)]) ∧ Prs w' w'.heap.size A7 (crP L) ∧ Below W.heap.size W w' from by
    obtain ⟨A7, c7, rfl⟩ := own_slice e2
    exact ⟨A7, c7, e1, Reads.of_own e2, e3⟩)
  have HXR := hid fun (h : L.length ≤ 1000000) (W : World) (hW : Below w1.heap.size w1 W) => (crossingR_any L A c h W (HRB.out W hW)).mono fun (e : Ending) (w' : World) ⟨v, e1, e2, e3⟩ => (show ∃ (A7 : Option Addr) (c7 : Nat), e = Ending.returned (.tuple #[.slice A7 (crP L).length c7, .int .i64 (chB L)]) ∧ Prs w' w'.heap.size A7 (crP L) ∧ Below W.heap.size W w' from by
    obtain ⟨A7, c7, rfl⟩ := own_slice e2
    exact ⟨A7, c7, e1, Reads.of_own e2, e3⟩)
  have hhl : (nz (hitL L x y)).length ≤ L.length := by
    rw [nz_len]
    unfold hitL
    split
    · exact hitJ_len
    · simp
  have hcp : (crP L).length ≤ 40000 := by
    unfold crP
    split
    · rename_i h0
      have h1 := (chB_zero h0).1
      have h2 := crJ_len (L := L) L.length
      have h3 : L.length * L.length ≤ 200 * 200 := Nat.mul_le_mul h1 h1
      omega
    · simp
  have HSI := hid fun (h : L.length ≤ 1000000) (A7 A9 : Option Addr) (c7 c9 : Nat) (W : World) (h7 : Rd W W.heap.size A7 (nz (hitL L x y))) (h9 : Rd W W.heap.size A9 (nz (hitL L x y))) => (sameInts_any (nz (hitL L x y)) (nz (hitL L x y)) A7 A9 c7 c9 (by omega) (by omega) W W.heap.size h7 h9).mono fun e w' hb => hb.get (r := true) (iff_of_true rfl rfl)
  generalize hitE L x y = E1 at *
  generalize chB L = E2 at *
  generalize nz (hitL L x y) = HL at *
  generalize crP L = CP at *
  obtain ⟨n, hnn⟩ : ∃ n, n = L.length := ⟨_, rfl⟩
  rw [← hnn] at hl HCP HIT HIR HCX HXR HSI ⊢
  have HW1 := hid hw1; have HB1 := hid hb1
  clear hw1 hb1 h0 h1 r hnn hhl HRB
  obtain ⟨B0, hB0⟩ : ∃ B0, B0 = w.heap.size := ⟨_, rfl⟩
  obtain ⟨B1, hB1⟩ : ∃ B1, B1 = B0 + 1 := ⟨_, rfl⟩
  have HB0 := hid hB0; have HBB := hid hB1
  rw [← hB0] at HC
  rw [← hB1] at HC
  clear hB0 hB1
  by_cases hg : 210 < n
  · have g0 : decide ((210 : Int) < (n : Int)) = true := decide_eq_true (by omega)
    clear hg HCP HIT HIR HCX HXR HSI
    go_enter Try.func9, Try.ntmps9
    go_upto_region 1 with (fail)
    rw [← HW1.out, ← HB0.out, ← HBB.out]
    go_wp2_with (first | (go_at_call 11; refine (HWK.out _).mono ?_; rintro e w3 ⟨rfl, hb3⟩; have HB3 := hid hb3; clear hb3))
    go_ret
    exact ⟨rfl, HB1.out.trans (HB3.out.mono HB1.out.size)⟩
  · have g0 : decide ((210 : Int) < (n : Int)) = false := decide_eq_false (by omega)
    have hn6 : n ≤ 1000000 := by omega
    replace HCP := hid (HCP.out hn6); replace HIT := hid (HIT.out hn6); replace HIR := hid (HIR.out hn6); replace HCX := hid (HCX.out hn6); replace HXR := hid (HXR.out hn6); replace HSI := hid (HSI.out hn6)
    clear hg hn6
    go_enter Try.func9, Try.ntmps9
    go_upto_region 1 with (fail)
    rw [← HW1.out, ← HB0.out, ← HBB.out]
    go_upto_region 3 with (fail)
    obtain ⟨⟨p0, p1⟩, p2, p3⟩ := HC.out w1 (Below.refl _ _)
    go_region_held3 (fun w' => (w'.cell? ⟨B0, 0, none⟩ = some (.int .i64 x.n) ∧ w'.cell? ⟨B0, 1, none⟩ = some (.int .i64 x.d)) ∧ w'.cell? ⟨B1, 0, none⟩ = some (.int .i64 y.n) ∧ w'.cell? ⟨B1, 1, none⟩ = some (.int .i64 y.d)) (first | exact ⟨⟨p0, p1⟩, p2, p3⟩ | exact HC.out _ (by first | exact HB3.out | exact HB2.out | exact (Below.refl _ _).drew | exact Below.refl _ _) | fail) (first | (go_at_call 37; refine (HCP.out _ (by first | exact (Below.refl _ _).drew | exact Below.refl _ _)).mono ?_; rintro e w2 ⟨A2, c2, rfl, hr2, hb2⟩; have HR2 := hid hr2; have HB2 := hid (bnext0 (by first | exact (Below.refl _ _).drew | exact Below.refl _ _) hb2); clear hr2 hb2) | (go_at_call 39; refine (HIT.out _ _ _ HR2.out).mono ?_; rintro e w3 ⟨A3, c3, rfl, hr3, hb3⟩; have HR3 := hid hr3; have HB3 := hid (bnext0 HB2.out hb3); clear hr3 hb3))
    all_goals
      clear p0 p1 p2 p3
      obtain ⟨⟨p0, p1⟩, p2, p3⟩ := HC.out w3 HB3.out
      go_upto_region 7 with (first | (go_at_call 40; refine (HIR.out _ HB3.out).mono ?_; rintro e w4 ⟨A4, c4, rfl, hr4, hb4⟩; have HR4 := hid hr4; replace HR3 := hid ((HR3.out.below hb4).more hb4.size); have HB4 := hid (bnext0 HB3.out hb4); clear hr4 hb4 p0 p1 p2 p3) | (go_at_call 37; refine (HCP.out _ HB4.out).mono ?_; rintro e w5 ⟨A5, c5, rfl, hr5, hb5⟩; have HR5 := hid hr5; replace HR3 := hid ((HR3.out.below hb5).more hb5.size); replace HR4 := hid ((HR4.out.below hb5).more hb5.size); have HB5 := hid (bnext0 HB4.out hb5); clear hr5 hb5) | (go_at_call 41; refine (HCX.out _ _ _ HR5.out).mono ?_; rintro e w6 ⟨A6, c6, rfl, hr6, hb6⟩; have HR6 := hid hr6; replace HR3 := hid ((HR3.out.below hb6).more hb6.size); replace HR4 := hid ((HR4.out.below hb6).more hb6.size); have HB6 := hid (bnext0 HB5.out hb6); clear hr6 hb6) | (go_at_call 42; refine (HXR.out _ HB6.out).mono ?_; rintro e w7 ⟨A7, c7, rfl, hr7, hb7⟩; have HR7 := hid hr7; replace HR3 := hid ((HR3.out.below hb7).more hb7.size); replace HR4 := hid ((HR4.out.below hb7).more hb7.size); replace HR6 := hid (show Prs w7 w7.heap.size A6 CP from Reads.more (Reads.below HR6.out hb7) hb7.size); have HB7 := hid (bnext0 HB6.out hb7); clear hr7 hb7))
      go_wp2_with (first | (go_at_call 30; refine (HSI.out _ _ _ _ _ HR3.out HR4.out).mono ?_; rintro e w8 ⟨rfl, hb8⟩; have HQ6 := hid (show Prs w8 w8.heap.size A6 CP from Reads.more (Reads.below HR6.out hb8) hb8.size); have HQ7 := hid (show Prs w8 w8.heap.size A7 CP from Reads.more (Reads.below HR7.out hb8) hb8.size); have HB8 := hid (bnext0 HB7.out hb8); clear hb8))
      obtain ⟨m, hm⟩ : ∃ m, m = CP.length := ⟨_, rfl⟩
      have HM := hid hm
      rw [← hm]
      have hm4 : m ≤ 40000 := by omega
      clear hm
      have HA6 := hid fun h => HQ6.out.at h
      have HA7 := hid fun h => HQ7.out.at h
      go_loopw [15] (fun iv wr => ∃ j : Nat, j ≤ m ∧ iv = .int .i64 j ∧ ∃ q, wr = w8.drewN q) (fun iv _ => m - (intOf iv).toNat)
      case atStart => exact ⟨0, by omega, rfl, 0, rfl⟩
      case round =>
        obtain ⟨j, hj, rfl, q, rfl⟩ := hrel
        by_cases hjm : j < m
        · have hjl : j < CP.length := by rw [← HM.out]; exact hjm
          obtain ⟨b6, o6, rfl, hb6, hc6⟩ := HA6.out (by omega)
          obtain ⟨b7, o7, rfl, hb7, hc7⟩ := HA7.out (by omega)
          obtain ⟨e0, e1⟩ := hc6 j hjl
          obtain ⟨e2, e3⟩ := hc7 j hjl
          generalize CP[j] = pr at *
          have q0 : (j : Int) < (m : Int) := by omega
          clear hc6 hc7
          go_wp2_with fail
          go_quiet (fail)
          go_wp2_with fail
          go_roundw
          case rel => exact ⟨j + 1, by omega, by go_num, _, by first | rfl | exact World.drewN_drewN _ _ _⟩
          case measure => simp [intOf]; omega
        · obtain rfl : j = m := by omega
          have q0 : decide ((j : Int) < (j : Int)) = false := by simp
          go_wp2_with (first | (go_at_call 11; refine (HWK.out _).mono ?_; rintro e w9 ⟨rfl, hb9⟩; have HB9 := hid (bnext0 (below_drewN HB8.out _) hb9); clear hb9))
          go_ret
          exact ⟨rfl, HB1.out.trans (HB9.out.mono HB1.out.size)⟩
end Go.Proofs.Ytfkcpcdndleboaa
