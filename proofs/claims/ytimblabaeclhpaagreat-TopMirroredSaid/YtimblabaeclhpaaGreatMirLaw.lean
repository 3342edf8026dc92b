/- WALK: the law TopMirrored. -/
import Derived.Test.YtimblabaeclhpaaGreatMirA
import Derived.Deep.RegionHeld3
import Derived.Test.YtimblabaeclhpaaGreatRowP
namespace Go.Proofs.YtimblabaeclhpaaGreat
open Go.RowKit
theorem run_neq_frac (a b c d : Int) (W : World) : (binOp .neq 42 (.agg #[.int .i64 a, .int .i64 b]) (.agg #[.int .i64 c, .int .i64 d])).run Tryz.prog W = .ok (.bool (decide (¬ (a = c ∧ b = d)))) W := by
  simp [go_sem]
  (repeat' split) <;> simp [*]
theorem run_neq_mark (x y : Mk) (W : World) : (binOp .neq 52 (.agg #[.int .i64 x.sign, .int .i64 x.state, .int .i64 x.mn, .int .i64 x.mx]) (.agg #[.int .i64 y.sign, .int .i64 y.state, .int .i64 y.mn, .int .i64 y.mx])).run Tryz.prog W = .ok (.bool (decide (x ≠ y))) W := by
  obtain ⟨x1, x2, x3, x4⟩ := x
  obtain ⟨y1, y2, y3, y4⟩ := y
  simp [go_sem]
  (repeat' split) <;> simp [*]
theorem bdn {n q : Nat} {w W : World} (h : Below n w W) : Below n w (W.drewN q) := ⟨h.os, h.tape, h.output, h.size, h.block⟩
theorem own_max {w : World} {B n c size : Nat} {e : TypeId} {A : Option Addr} {xs : List Value} (h : w.ownsRow B e size (.slice A n c) n xs) : n ≤ 9223372036854775807 := by
  rcases h.2 with ⟨h2, h3⟩ | ⟨g, cap, cur, hv, _, _, h3, h4, _⟩
  · omega
  · unfold maxLen at h4; omega
theorem lay_outS {P : Int} {ss : List Sg} {l : List Nd} {d wd : Int} {w : World} {e : Ending} {w' : World} (h : LayPost P ss l d wd w e w') : ∃ A' c', e = .returned (.tuple #[.slice A' (layR P ss l d wd).length c', .int .i64 (begE P ss l d wd)]) ∧ Bxr w' w'.heap.size A' (layR P ss l d wd) ∧ Below w.heap.size w w' ∧ (layR P ss l d wd).length ≤ 9223372036854775807 := by
  obtain ⟨v, h1, h2, h3⟩ := h
  obtain ⟨A', c', rfl⟩ := own_slice h2
  exact ⟨A', c', h1, Reads.of_own h2, h3, own_max h2⟩
/-- A box with a list, or with a text. -/
def LsB (W : World) (b : Nat) (P : Int) (v : Value) : Prop := W.heap[b]? = some (.cells #[.int .i64 P, v] 24 (0, 0))
def TxB (W : World) (b : Nat) (v : Value) : Prop := W.heap[b]? = some (.cells #[v] 30 (0, 0))
theorem LsB.cells {W : World} {b : Nat} {P : Int} {v : Value} (h : LsB W b P v) : W.cell? ⟨b, 0, none⟩ = some (.int .i64 P) ∧ W.cell? ⟨b, 1, none⟩ = some v := by
  unfold LsB at h
  constructor <;> simp [World.cell?, h]
theorem LsB.below {W W' : World} {b : Nat} {P : Int} {v : Value} (h : LsB W b P v) (hb : Below W.heap.size W W') : LsB W' b P v := (hb.block _ (lt_of_block h)).trans h
theorem TxB.below {W W' : World} {b : Nat} {v : Value} (h : TxB W b v) (hb : Below W.heap.size W W') : TxB W' b v := (hb.block _ (lt_of_block h)).trans h
theorem al {W : World} (o : Obj) : Below W.heap.size W (W.alloc o) := (Below.refl _ _).alloc (Nat.le_refl _) _
set_option maxRecDepth 100000 in
set_option maxHeartbeats 8000000 in
theorem mirrored_law (P len : Int) (ss : List Sg) (s : ByteArray) (A : Option Addr) (c : Nat) (hv : ∀ s ∈ ss, s.vals.length ≤ 9223372036854775807) (hss : s.size ≤ 9223372036854775807) (w : World) (rs : Sgs w w.heap.size A ss) :
    Calls Tryz.prog 3 #[.agg #[.int .i64 P, .slice A ss.length c], .string s, .int .i64 len] w fun e w' => e = .returned (.bool true) ∧ Below w.heap.size w w' := by
  obtain ⟨w1, hw1⟩ : ∃ W, W = w.alloc (.cells #[.int .i64 P, .slice A ss.length c] 24) := ⟨_, rfl⟩
  obtain ⟨B0, hB0⟩ : ∃ b, b = w.heap.size := ⟨_, rfl⟩
  have hb1 : Below w.heap.size w w1 := by rw [hw1]; exact al _
  have H0 := hid (show LsB w1 B0 P (.slice A ss.length c) by rw [hw1, hB0]; exact nwB rfl)
  have hrs1 : Sgs w1 w1.heap.size A ss := (rs.below hb1).more hb1.size
  have HSM := hid (smallT_any P ss A c w1 fun h12 => refListCheck_any P ss (by omega) hv A c _ ((hrs1.below (al _)).more (by simp)))
  have HWK := hid fun (W : World) => writes_any W
  have HRS := hid hrs1
  have HB1 := hid hb1; have HW1 := hid hw1; have HX0 := hid hB0
  have HSS := hid hss
  clear rs hrs1 hb1 hw1 hB0 hv hss
  go_enter Tryz.func3, Tryz.ntmps3
  go_upto_region 1 with (fail)
  rw [← HW1.out, ← HX0.out]
  clear HW1
  obtain ⟨p0, p1⟩ := H0.out.cells
  obtain ⟨sm, hsm⟩ : ∃ b, b = decide (ss.length ≤ 12 ∧ listE P ss = 0) := ⟨_, rfl⟩
  rw [← hsm] at HSM
  cases sm with
  | false =>
    clear hsm
    go_wp2_with (first | (go_at_call 4; refine HSM.out.mono ?_; rintro e w2 ⟨rfl, hb2⟩; have HB2 := hid (HB1.out.trans (hb2.mono HB1.out.size)); clear hb2) | (go_at_call 5; refine (HWK.out _).mono ?_; rintro e w3 ⟨rfl, hb3⟩; have HB3 := hid (HB2.out.trans (hb3.mono HB2.out.size)); clear hb3))
    go_ret
    exact ⟨rfl, HB3.out⟩
  | true =>
    obtain ⟨h12, hE⟩ := of_decide_eq_true hsm.symm
    have H12 := hid h12; have HE := hid hE
    clear hsm h12 hE
    by_cases hs3 : 300 < s.size
    · have e1 : decide ((300 : Int) < (s.size : Int)) = true := decide_eq_true (by omega)
      clear hs3
      go_wp2_with (first | (go_at_call 4; refine HSM.out.mono ?_; rintro e w2 ⟨rfl, hb2⟩; have HB2 := hid (HB1.out.trans (hb2.mono HB1.out.size)); clear hb2) | (go_at_call 5; refine (HWK.out _).mono ?_; rintro e w3 ⟨rfl, hb3⟩; have HB3 := hid (HB2.out.trans (hb3.mono HB2.out.size)); clear hb3))
      go_ret
      exact ⟨rfl, HB3.out⟩
    · have e1 : decide ((300 : Int) < (s.size : Int)) = false := decide_eq_false (by omega)
      have HS3 := hid (show s.size ≤ 300 by omega)
      clear hs3
      go_upto_region 3 with (first | (go_at_call 4; refine HSM.out.mono ?_; rintro e w2 ⟨rfl, hb2⟩; have HB2 := hid (bnext HB1.out hb2); have H2 := hid (H0.out.below hb2); have HR2 := hid ((HRS.out.below hb2).more hb2.size); clear hb2))
      obtain ⟨p0, p1⟩ := H2.out.cells
      have HCP := hid (copyList_any P ss A c (by have := H12.out; omega) (fun s hs => by have := list_vals HE.out s hs; omega) w2 HR2.out)
      go_upto_region 4 with (first | (go_at_call 6; refine HCP.out.mono ?_; rintro e w3 ⟨A3, c3, ss3, rfl, hl3, hb3⟩; have HB3 := hid (bnext HB2.out hb3); have H3 := hid (H2.out.below hb3); have HR3 := hid ((HR2.out.below hb3).more hb3.size); have HM3 := hid (MCopy.of hl3 HE.out H12.out); clear hl3 hb3))
      obtain ⟨b7, hb7⟩ : ∃ b, b = w3.heap.size := ⟨_, rfl⟩
      obtain ⟨w4, hw4⟩ : ∃ W, W = w3.alloc (.cells #[.int .i64 P, .slice A3 ss3.length c3] 24) := ⟨_, rfl⟩
      have hx4 : Below w3.heap.size w3 w4 := by rw [hw4]; exact al _
      have H74 := hid (show LsB w4 b7 P (.slice A3 ss3.length c3) by rw [hw4, hb7]; exact nwB rfl)
      have H4 := hid (H3.out.below hx4); have HR4 := hid ((HR3.out.below hx4).more hx4.size); have HM4 := hid (HM3.out.below hx4); have HB4 := hid (bnext HB3.out hx4)
      rw [← hw4, ← hb7]
      clear hw4 hb7 hx4 H3 HR3 HM3 H2 HR2 HCP p0 p1
      obtain ⟨p0, p1⟩ := H74.out.cells
      have HRD := hid (read_any P 12 ss3 HM4.out.list (by have := HM4.out.len; omega) HM4.out.vals (by decide) (by have := HM4.out.len; omega) s HS3.out A3 c3 w4 HM4.out.sg)
      go_upto_region 5 with (first | (go_at_call 7; refine HRD.out.mono ?_; rintro e w5 ⟨A5, c5, l, at5, er5, rfl, ho5, hb5, hr5⟩; have HB5 := hid (bnext HB4.out hb5); have H75 := hid (H74.out.below hb5); have H5 := hid (H4.out.below hb5); have HR5 := hid ((HR4.out.below hb5).more hb5.size); have HM5 := hid (HM4.out.below hb5); have HOK := hid hr5; have HN5 := hid (show Nds w5 w5.heap.size A5 l from Reads.of_own ho5); clear ho5 hb5 hr5))
      obtain ⟨b8, hb8⟩ : ∃ b, b = w5.heap.size := ⟨_, rfl⟩
      obtain ⟨w6, hw6⟩ : ∃ W, W = w5.alloc (.cells #[.slice A5 l.length c5] 30) := ⟨_, rfl⟩
      have hx6 : Below w5.heap.size w5 w6 := by rw [hw6]; exact al _
      have H86 := hid (show TxB w6 b8 (.slice A5 l.length c5) by rw [hw6, hb8]; exact nwB rfl)
      have H76 := hid (H75.out.below hx6); have H6 := hid (H5.out.below hx6); have HR6 := hid ((HR5.out.below hx6).more hx6.size); have HM6 := hid (HM5.out.below hx6); have HB6 := hid (bnext HB5.out hx6); have HN6 := hid (rdn HN5.out hx6)
      rw [← hw6, ← hb8]
      clear hw6 hb8 hx6 H5 HR5 HM5 H75 HN5 HRD p0 p1 H4 HR4 HM4 H74
      by_cases he5 : er5 = 0
      rotate_left
      · have e1 : (er5 != 0) = true := by simpa using he5
        clear he5
        go_wp2_with (first | (go_at_call 5; refine (HWK.out _).mono ?_; rintro e w99 ⟨rfl, hb99⟩; have HB99 := hid (bnext HB6.out hb99); clear hb99))
        go_ret
        exact ⟨rfl, HB99.out⟩
      subst he5
      obtain ⟨hat, ks, q, hpa, hfl, hck⟩ := HOK.out.good rfl
      have HCK := hid hck
      have hl200 := (chkE_zero hck).2.1
      obtain ⟨p0, p1⟩ := H76.out.cells
      have p8 := cell_of_one H86.out
      have HMI := hid (mirrorE_any P ss3 l (by have := HM6.out.len; omega) HM6.out.vals (by omega) A3 A5 c3 c5 w6 HM6.out.sg HN6.out)
      rw [hck, mrrL_ok hck] at HMI
      have HL200 := hid hl200
      clear hat hpa hfl hck hl200
      go_upto_region 8 with (first | (go_at_call 8; refine HMI.out.mono ?_; rintro e w7 ⟨v7, rfl, ho7, hb7⟩; obtain ⟨A7, c7, rfl⟩ := own_slice ho7; rw [List.length_map] at ho7; rw [List.length_map]; have HB7 := hid (bnext HB6.out hb7); have H77 := hid (H76.out.below hb7); have H87 := hid (H86.out.below hb7); have H7 := hid (H6.out.below hb7); have HR7 := hid ((HR6.out.below hb7).more hb7.size); have HM7 := hid (HM6.out.below hb7); have HN7 := hid (rdn HN6.out hb7); have HO7 := hid (show Reads w7 w7.heap.size 8 A7 l.length (flatN (l.map (mirN ss3))) from Reads.of_own ho7); clear ho7 hb7))
      obtain ⟨b11, hb11⟩ : ∃ b, b = w7.heap.size := ⟨_, rfl⟩
      obtain ⟨w8, hw8⟩ : ∃ W, W = w7.alloc (.cells #[.slice A7 l.length c7] 30) := ⟨_, rfl⟩
      have hx8 : Below w7.heap.size w7 w8 := by rw [hw8]; exact al _
      have H118 := hid (show TxB w8 b11 (.slice A7 l.length c7) by rw [hw8, hb11]; exact nwB rfl)
      have H78 := hid (H77.out.below hx8); have H88 := hid (H87.out.below hx8); have H8 := hid (H7.out.below hx8); have HR8 := hid ((HR7.out.below hx8).more hx8.size); have HM8 := hid (HM7.out.below hx8); have HB8 := hid (bnext HB7.out hx8); have HN8 := hid (rdn HN7.out hx8); have HO8 := hid (rdn HO7.out hx8)
      rw [← hw8, ← hb11]
      clear hw8 hb11 hx8 H7 HR7 HM7 H77 HN7 H87 HO7 HMI p0 p1 p8 H6 HR6 HM6 H76 HN6 H86
      obtain ⟨p0, p1⟩ := H78.out.cells
      have p8 := cell_of_one H88.out; have p11 := cell_of_one H118.out
      have HLA := hid fun (W : World) (h : Below w8.heap.size w8 W) => (lay_any P ss3 l (by have := HM8.out.len; omega) HM8.out.vals (by have := HL200.out; omega) 1 len A3 A5 c3 c5 W (HM8.out.below h).sg (rdn HN8.out h)).mono fun e w' h => lay_outS h
      have HLB := hid fun (W : World) (h : Below w8.heap.size w8 W) => (lay_any P ss3 (l.map (mirN ss3)) (by have := HM8.out.len; omega) HM8.out.vals (by rw [List.length_map]; have := HL200.out; omega) 2 len A3 A7 c3 c7 W (HM8.out.below h).sg (by unfold Nds; rw [List.length_map]; exact rdn HO8.out h)).mono fun e w' h => lay_outS h
      obtain ⟨em, vm⟩ := mir_lay (wd := len) HCK.out
      rw [em, vm, List.length_map] at HLB
      have HSG := hid fun (b : Bxv) (h : b ∈ layR P ss3 l 1 len) => lay_sign h
      have hbeg : begE P ss3 l 1 len ≠ 0 ∨ begE P ss3 l 1 len = 0 := by omega
      generalize layR P ss3 l 1 len = V at *
      generalize begE P ss3 l 1 len = E at *
      clear em vm
      go_upto_region 11 with (first | (go_at_call 9; refine (HLA.out _ (Below.refl _ _)).mono ?_; rintro e w9 ⟨A9, c9, rfl, hr9, hb9, hm9⟩; have HV9 := hid hr9; have HB9 := hid hb9; obtain ⟨q0, q1⟩ := (H78.out.below hb9).cells; have q11 := cell_of_one (H118.out.below hb9); have HMX := hid hm9; clear hr9 hb9 hm9))
      go_upto_region 12 with (first | (go_at_call 9; refine (HLB.out _ HB9.out).mono ?_; rintro e w10 ⟨A10, c10, rfl, hr10, hb10, hm10⟩; have HU10 := hid hr10; have HV10 := hid (rdn HV9.out hb10); have HX10 := hid (bnext HB9.out hb10); clear hr10 hb10 hm10))
      have HB10 := hid (bnext HB8.out HX10.out)
      have HBX := hid (show TxB w10 b11 (.slice A7 l.length c7) from H118.out.below HX10.out)
      have HB7 := hid (show LsB w10 b7 P (.slice A3 ss3.length c3) from H78.out.below HX10.out)
      have HBT := hid (show TxB w10 b8 (.slice A5 l.length c5) from H88.out.below HX10.out)
      have HB0 := hid (show LsB w10 B0 P (.slice A ss.length c) from H8.out.below HX10.out)
      have HM10 := hid (HM8.out.below HX10.out)
      have HR10 := hid ((HR8.out.below HX10.out).more HX10.out.size)
      have HN10 := hid (rdn HN8.out HX10.out)
      have HO10 := hid (rdn HO8.out HX10.out)
      clear q0 q1 q11 HLA HLB HV9 HB9 HX10 p0 p1 p8 p11 H8 HR8 HM8 H78 HN8 H88 HO8 H118 HB2 HB3 HB4 HB5 HB6 HB8
      by_cases hE0 : E = 0
      rotate_left
      · have e1 : (E != 0) = true := by simpa using hE0
        clear hE0 hbeg
        go_wp2_with (first | (go_at_call 5; refine (HWK.out _).mono ?_; rintro e w99 ⟨rfl, hb99⟩; have HB99 := hid (bnext HB10.out hb99); clear hb99))
        go_ret
        exact ⟨rfl, HB99.out⟩
      subst hE0
      clear hbeg
      obtain ⟨m, hm⟩ : ∃ m, m = V.length := ⟨_, rfl⟩
      have HMV := hid hm
      have hmx : m ≤ 9223372036854775807 := by rw [hm]; exact HMX.out
      obtain ⟨N, hN⟩ : ∃ N, N = ss.length := ⟨_, rfl⟩
      rw [← hN] at HB0
      have HNS := hid hN
      rw [← hm, ← hN]
      clear hm hN
      go_upto_region 18 with (fail)
      go_wp2_with fail
      go_loopw [17] (fun iv wr => ∃ i : Nat, i ≤ m ∧ iv = .int .i64 i ∧ Hid (Below w10.heap.size w10 wr)) (fun iv _ => m - (intOf iv).toNat)
      case atStart => exact ⟨0, by omega, rfl, hid (Below.refl _ _)⟩
      case round =>
        obtain ⟨i, hi, rfl, hB⟩ := hrel
        by_cases him : i < m
        · have hiV : i < V.length := by rw [← HMV.out]; exact him
          obtain ⟨ga, oa, rfl, hga, hca⟩ := (show Bxr w10 w10.heap.size A9 V from HV10.out).at (by omega)
          obtain ⟨gb, ob, rfl, hgb, hcb⟩ := (show Bxr w10 w10.heap.size A10 (V.map (mirB ss3)) from HU10.out).at (by rw [List.length_map]; omega)
          have hra := range_below (hca i hiV) hB.out hga
          have hrb := range_below (hcb i (by rw [List.length_map]; exact hiV)) hB.out hgb
          rw [List.getElem_map] at hrb
          have hsg := HSG.out V[i] (List.getElem_mem hiV)
          generalize V[i] = a at hra hrb hsg
          have hmb := mir_bool ss3 a.nd
          have a0 := hra 0 _ rfl; have a1 := hra 1 _ rfl; have a3 := hra 3 _ rfl; have a9 := hra 9 _ rfl; have a10 := hra 10 _ rfl; have a11 := hra 11 _ rfl; have a12 := hra 12 _ rfl; have a13 := hra 13 _ rfl; have a14 := hra 14 _ rfl
          have b1 := hrb 1 (.int .i64 a.nd.sign) (by show some _ = _; rw [← (mirN_kind ss3 a.nd).2.2.1]; rfl)
          have b3 := hrb 3 _ rfl; have b9 := hrb 9 (.int .i64 a.y.n) rfl; have b10 := hrb 10 (.int .i64 a.y.d) rfl; have b11' := hrb 11 (.int .i64 a.w.n) rfl; have b12 := hrb 12 (.int .i64 a.w.d) rfl; have b13 := hrb 13 (.int .i64 a.h.n) rfl; have b14 := hrb 14 (.int .i64 a.h.d) rfl
          simp only [Nat.add_zero] at a0
          have b3' : wr.cell? ⟨gb, ob + i * 15 + 3, none⟩ = some (.bool (mirN ss3 a.nd).mir) := b3
          clear b3 hra hrb hca hcb hga hgb
          have hn1 := fun W => run_neq_frac a.y.n a.y.d a.y.n a.y.d W
          have hn2 := fun W => run_neq_frac a.w.n a.w.d a.w.n a.w.d W
          have hn3 := fun W => run_neq_frac a.h.n a.h.d a.h.n a.h.d W
          simp only [and_self, not_true_eq_false, decide_false] at hn1 hn2 hn3
          have q1 : (i : Int) < (m : Int) := by omega
          have h0c := (HB0.out.below hB.out).cells.2
          generalize (mirN ss3 a.nd).mir = mb at *
          obtain ⟨an, ax, ay, aw, ah⟩ := a
          obtain ⟨yn, yd⟩ := ay
          obtain ⟨wn, wd⟩ := aw
          obtain ⟨hn, hd⟩ := ah
          obtain ⟨kk, dp, sg, tn, mi, st, mn, mx⟩ := an
          simp only [] at hsg hmb a0 a1 a3 a9 a10 a11 a12 a13 a14 b1 b9 b10 b11' b12 b13 b14 hn1 hn2 hn3
          by_cases hk : kk = 1
          · have e1 : (kk == 1) = true := by simp [hk]
            have e2 : (kk != 1) = false := by simp [hk]
            obtain ⟨hs0, hs1⟩ := hsg hk
            obtain ⟨k, rfl⟩ : ∃ k : Nat, sg = (k : Int) := ⟨sg.toNat, by omega⟩
            have hkN : (k : Int) < (N : Int) := by have := core_len HM10.out.core; have := HNS.out; omega
            have hkS : k < ss.length := by have := HNS.out; omega
            obtain ⟨bs, os, rfl, hbs, hcs⟩ := HR10.out.at (by omega)
            have pe := (hB.out.cell (p := ⟨bs, os + k * 5 + 3, none⟩) hbs).trans (hcs k hkS).even
            rw [evenOf_core HM10.out.core, even_at hkS] at hmb
            generalize (ss[k]).even = ev at pe hmb
            have e3 : (mi == mb) = ev := by rw [hmb]; simp [hk]
            clear hmb hsg hk hs1 hcs hbs
            go_wp2_with fail
            go_quiet (fail)
            go_wp2_with fail
            go_quiet (fail)
            go_wp2_with fail
            go_quiet (fail)
            go_wp2_with fail
            go_roundw
            case rel => exact ⟨i + 1, by omega, by go_num, hid (by first | exact hB.out | exact bdn hB.out | exact bdn (bdn hB.out) | exact bdn (bdn (bdn hB.out)))⟩
            case measure => simp [intOf]; omega
          · have e1 : (kk == 1) = false := by simp [hk]
            have e2 : (kk != 1) = true := by simp [hk]
            have e3 : (mi == mb) = true := by rw [hmb]; simp [hk]
            clear hmb hsg hk
            go_wp2_with fail
            go_quiet (fail)
            go_wp2_with fail
            go_quiet (fail)
            go_wp2_with fail
            go_quiet (fail)
            go_wp2_with fail
            go_roundw
            case rel => exact ⟨i + 1, by omega, by go_num, hid (by first | exact hB.out | exact bdn hB.out | exact bdn (bdn hB.out) | exact bdn (bdn (bdn hB.out)))⟩
            case measure => simp [intOf]; omega
        · obtain rfl : i = m := by omega
          have q1 : decide ((i : Int) < (i : Int)) = false := by simp
          have HB11 := hid (bnext HB10.out hB.out)
          have HT := hid (HBT.out.below hB.out); have H7 := hid (HB7.out.below hB.out); have HX := hid (HBX.out.below hB.out)
          obtain ⟨p0, p1⟩ := H7.out.cells
          have p8 := cell_of_one HT.out
          have HMM := hid (HM10.out.below hB.out)
          have HL1 := hid (lineE_any P ss3 l (by have := HM10.out.len; omega) HM10.out.vals (by have := HL200.out; omega) A3 A5 c3 c5 wr HMM.out.sg (rdn HN10.out hB.out))
          have HL2 := hid fun (W : World) (h : Below wr.heap.size wr W) => lineE_any P ss3 (l.map (mirN ss3)) (by have := HM10.out.len; omega) HM10.out.vals (by rw [List.length_map]; have := HL200.out; omega) A3 A7 c3 c7 W (HMM.out.below h).sg (by unfold Nds; rw [List.length_map]; exact rdn (rdn HO10.out hB.out) h)
          unfold MksPost at HL1 HL2
          rw [HCK.out, linL_ok HCK.out] at HL1
          rw [mir_ok HCK.out, linL_ok (mir_ok HCK.out), mir_marks, List.length_map] at HL2
          generalize marks l = K at HL1 HL2
          go_upto_region 27 with (first | (go_at_call 10; refine HL1.out.mono ?_; rintro e w12 ⟨v12, rfl, ho12, hb12⟩; obtain ⟨A12, c12, rfl⟩ := own_slice ho12; have HO12 := hid ho12; have HB12 := hid hb12; obtain ⟨q2, q3⟩ := (H7.out.below hb12).cells; have q11 := cell_of_one (HX.out.below hb12); clear ho12 hb12))
          go_upto_region 28 with (first | (go_at_call 10; refine (HL2.out _ HB12.out).mono ?_; rintro e w13 ⟨v13, rfl, ho13, hb13⟩; obtain ⟨A13, c13, rfl⟩ := own_slice ho13; have HB13 := hid (bnext HB11.out (bnext HB12.out hb13)); have HK1 := hid (show Reads w13 w13.heap.size 4 A12 K.length (flatM K) from rdn (Reads.of_own HO12.out) hb13); have HK2 := hid (show Reads w13 w13.heap.size 4 A13 K.length (flatM K) from Reads.of_own ho13); have HKX := hid (own_max ho13); clear ho13 hb13))
          obtain ⟨n2, hn2⟩ : ∃ n2, n2 = K.length := ⟨_, rfl⟩
          have HN2 := hid hn2
          have hmx2 : n2 ≤ 9223372036854775807 := by rw [hn2]; exact HKX.out
          rw [← hn2]
          clear hn2 p0 p1 p8 q2 q3 q11 HL1 HL2 HT H7 HX HMM HB12 HB11 HO12 hB HB10
          go_wp2_with fail
          go_loopw [23] (fun iv wr => ∃ k : Nat, k ≤ n2 ∧ iv = .int .i64 k ∧ Hid (Below w13.heap.size w13 wr)) (fun iv _ => n2 - (intOf iv).toNat)
          case atStart => exact ⟨0, by omega, rfl, hid (Below.refl _ _)⟩
          case round =>
            obtain ⟨k, hk, rfl, hB⟩ := hrel
            by_cases hkn : k < n2
            · have hkK : k < K.length := by rw [← HN2.out]; exact hkn
              obtain ⟨ga, oa, rfl, hga, hca⟩ := Reads.at0 HK1.out (by omega) (by rw [flatM_len]; omega)
              obtain ⟨gb, ob, rfl, hgb, hcb⟩ := Reads.at0 HK2.out (by omega) (by rw [flatM_len]; omega)
              have ha : ∀ j u, j < 4 → (K[k].cells)[j]? = some u → wr.cell? ⟨ga, oa + (k * 4 + j), none⟩ = some u := fun j u hj hu => (hB.out.cell (p := ⟨ga, oa + (k * 4 + j), none⟩) hga).trans (hca _ u (by rw [flatM_get K k j hkK hj]; exact hu))
              have hb : ∀ j u, j < 4 → (K[k].cells)[j]? = some u → wr.cell? ⟨gb, ob + (k * 4 + j), none⟩ = some u := fun j u hj hu => (hB.out.cell (p := ⟨gb, ob + (k * 4 + j), none⟩) hgb).trans (hcb _ u (by rw [flatM_get K k j hkK hj]; exact hu))
              simp only [← Nat.add_assoc] at ha hb
              generalize K[k] = x at ha hb
              have a0 := ha 0 _ (by decide) rfl; have a1 := ha 1 _ (by decide) rfl; have a2 := ha 2 _ (by decide) rfl; have a3 := ha 3 _ (by decide) rfl
              have b0 := hb 0 _ (by decide) rfl; have b1 := hb 1 _ (by decide) rfl; have b2 := hb 2 _ (by decide) rfl; have b3 := hb 3 _ (by decide) rfl
              simp only [Nat.add_zero] at a0 b0
              have hne := fun W => run_neq_mark x x W
              rw [decide_eq_false (fun h => h rfl)] at hne
              obtain ⟨x1, x2, x3, x4⟩ := x
              simp only [] at a0 a1 a2 a3 b0 b1 b2 b3 hne
              have q2 : (k : Int) < (n2 : Int) := by omega
              clear ha hb hca hcb hga hgb
              go_wp2_with fail
              go_quiet (fail)
              go_wp2_with fail
              go_roundw
              case rel => exact ⟨k + 1, by omega, by go_num, hid (by first | exact hB.out | exact bdn hB.out)⟩
              case measure => simp [intOf]; omega
            · obtain rfl : k = n2 := by omega
              have q2 : decide ((k : Int) < (k : Int)) = false := by simp
              go_wp2_with (first | (go_at_call 5; refine (HWK.out _).mono ?_; rintro e w99 ⟨rfl, hb99⟩; have HB99 := hid (bnext (bnext HB13.out hB.out) hb99); clear hb99))
              go_ret
              exact ⟨rfl, HB99.out⟩
end Go.Proofs.YtimblabaeclhpaaGreat

/- PROVED: ostracontop.TopMirrored returns true for every list, string and length, and what it is given reads as before. Conditions: none. -/
namespace Go.Proofs.YtimblabaeclhpaaGreat
open Go.ChangeShapes Go.WideShapes Go.ChangeAt Go.RowKit Go.Joins Go.Deep
theorem max63 {n : Nat} (h : n ≤ maxLen) : n ≤ 9223372036854775807 := h
set_option maxRecDepth 100000 in
theorem mirrored_lifted (os : Os) (started : os.Started) (H : Type) (enc : TypeId × Value → H) :
    ReturnsInHanded {} Tryz.checked os 3 .any (Rows.topMirroredSpec.pre6 enc Tryz.prog Tryz.f3 Rows.topMirroredRow.domain false) (Rows.topMirroredSpec.post enc Tryz.prog Tryz.f3 false true false false) := by
  refine returnsInHanded_of_change (C := Tryz.checked) row_own started (by kernel_rfl) Tryz.func3
    (ChangeSpec.witness6 (enc := enc) (C := Tryz.checked) false ⟨#[], #[.agg #[.int .i64 0, .slice none 0 0], .string ⟨#[]⟩, .int .i64 0], []⟩ 8 (by kernel_rfl) (by kernel_rfl) (by kernel_rfl) (by kernel_rfl)) ?_
  intro W base args ds gs before hval0 hW hcnd _
  have hval : ∀ (j : Nat) t v, Tryz.f3.params[j]? = some t → args[j]? = some v → Value.okWide Tryz.prog W .any base t v := hval0
  have hW' := hW
  obtain ⟨p, q, hA0, hV, rfl, hfz, hnd⟩ := hW
  have hA : DataW.TrodAll enc Tryz.prog W 0 (fun _ => true) true Tryz.f3.params.toList args.toList ds p := hA0
  rw [Tryz.params3] at hA hval
  obtain ⟨v0, vs0, d0, ds0, p0, q0, hargs, rfl, rfl, h0, r0⟩ := trodAll_cons hA
  obtain ⟨v1, vs1, d1, ds1, p1, q1, rfl, rfl, rfl, h1, r1⟩ := trodAll_cons r0
  obtain ⟨v2, vs2, d2, ds2, p2, q2, rfl, rfl, rfl, h2, r2⟩ := trodAll_cons r1
  obtain ⟨rfl, rfl, rfl⟩ := trodAll_nil r2
  obtain rfl : args = #[v0, v1, v2] := by cases args; simp_all
  obtain ⟨rfl, rfl⟩ := trodVars_none hV
  have k0 := h0
  have lt0 : ∀ x ∈ p0, x.block < W.heap.size := by obtain ⟨m, hm⟩ := k0; exact DataW.trod_lt m _ _ _ hm
  have k1 := h1
  have lt1 : ∀ x ∈ p1, x.block < W.heap.size := by obtain ⟨m, hm⟩ := k1; exact DataW.trod_lt m _ _ _ hm
  have k2 := h2
  have lt2 : ∀ x ∈ p2, x.block < W.heap.size := by obtain ⟨m, hm⟩ := k2; exact DataW.trod_lt m _ _ _ hm
  obtain ⟨P, A, ss, c, rfl, hl, hv, rs⟩ := open_list (hval 0 _ v0 rfl rfl) h0
  obtain ⟨s, rfl, _, _, hs⟩ := Go.ChangeMaps.open_string Tryz.underlying9 (hval 1 _ v1 rfl rfl) h1
  obtain ⟨x2, rfl, wf2⟩ := open_int Tryz.underlying3 (hval 2 _ v2 rfl rfl) h2
  clear hA0 hval0
  refine (mirrored_law P x2 ss s A c (fun s hs => max63 (hv s hs)) (max63 hs) W rs).mono fun e W' ⟨he, bel⟩ => ?_
  subst he
  exact ⟨_, rfl, _, _, _, [], _, [], hW', trodAll_mk1 (shut_bool Tryz.underlying4 _), (trodAll_cons_mk (Below.trod row_laid (by kernel_rfl) (of_decide_eq_true (by kernel_rfl)) k0 bel lt0) (trodAll_cons_mk (Below.trod row_laid (by kernel_rfl) (of_decide_eq_true (by kernel_rfl)) k1 bel lt1) (trodAll_cons_mk (Below.trod row_laid (by kernel_rfl) (of_decide_eq_true (by kernel_rfl)) k2 bel lt2) trodAll_mk0))), rfl, bel.frame _, fun h => by cases h⟩
theorem mirrored_holds : Rows.TopMirroredSaid :=
  OpenClaim.holds_of_wide 3 Tryz.f3 rfl rfl rfl rfl rfl rfl rfl ⟨rfl, rfl, rfl, rfl, rfl⟩ rfl rfl rfl rfl rfl (by kernel_rfl) Tryz.func3 (by kernel_rfl)
    (of_decide_eq_true (by kernel_rfl)) (by unfold Func.isWrapper; first | (rw [if_pos (by decide +kernel)]; kernel_rfl) | (rw [if_neg (by decide +kernel)]; exact ⟨rfl, rfl⟩))
    (fun os started H enc _ => mirrored_lifted os started H enc)
#print axioms mirrored_holds
end Go.Proofs.YtimblabaeclhpaaGreat
