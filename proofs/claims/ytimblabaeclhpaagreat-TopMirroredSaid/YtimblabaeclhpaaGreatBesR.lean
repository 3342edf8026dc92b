/- WALK: the reader's beside (printed by gen_besr.py). -/
import Derived.Test.YtimblabaeclhpaaGreatOverR
namespace Go.Proofs.YtimblabaeclhpaaGreat
open Go.RowKit
theorem Ks.lt {N : Int} {n0 : Nat} {Lx : List Nat} {W : World} {A : Option Addr} {m c : Nat} {ks : List Itm} (h : Ks N n0 Lx W A m c ks) : ∀ g, (Value.slice A m c).ownBlock = some g → n0 ≤ g ∧ g < W.heap.size := by
  obtain ⟨_, _, _, h3, _⟩ := h
  exact h3.lt
theorem Ks.len {N : Int} {n0 : Nat} {Lx : List Nat} {W : World} {A : Option Addr} {m c : Nat} {ks : List Itm} (h : Ks N n0 Lx W A m c ks) : ks.length = m := by
  obtain ⟨_, _, h2, _⟩ := h
  exact h2
set_option maxRecDepth 100000 in
set_option maxHeartbeats 4000000 in
theorem beside_anyR (ab : AbF) (rb : Nat) (s : ByteArray) (p : Nat) (w : World) (h : Rdr w rb s p) (hp : p ≤ s.size) (hs : s.size ≤ 1000000)
    (hab : ∀ (q : Nat) (wi : Bool) (W : World), p < q → q ≤ s.size → Rdr W rb s q → Calls Tryz.prog 102 #[.pointer (some ⟨rb, 0, none⟩), .bool wi] W (ItP s rb W (ab q wi))) (hfw : ∀ w, FwF s fun p => ab p w) :
    Calls Tryz.prog 103 #[.pointer (some ⟨rb, 0, none⟩)] w (ItP s rb w (besideP s ab p)) := by
  obtain ⟨W1, hW1⟩ : ∃ W1, W1 = w.alloc (.cells #[.int .i64 0, .int .i64 0, .int .i64 0, .int .i64 0, .bool false, .int .i64 0, .int .i64 0, .int .i64 0, .string ⟨#[]⟩, .int .i64 0, .slice none 0 0] 93) := ⟨_, rfl⟩
  have HB := hid (show Below w.heap.size w W1 by rw [hW1]; exact (Below.refl _ _).alloc (Nat.le_refl _) _)
  have HR := hid (h.keep HB.out)
  have H0 := hid (show ItB W1 w.heap.size iv0 by rw [hW1]; exact nwB rfl)
  have HK := hid (show Kp rb w W1 from Kp.of_below HB.out)
  have hlt := h.lt
  have hz : W1.heap.size = w.heap.size + 1 := by rw [hW1]; simp
  have HOV := hid fun (q : Nat) (W : World) (h : Rdr W rb s q) (hq : q ≤ s.size) (hpq : p ≤ q) => over_anyR ab rb s q W h hq hs (fun r wi W' h1 h2 h3 => hab r wi W' (Nat.lt_of_le_of_lt hpq h1) h2 h3) hfw
  have HOF := hid fun (q : Nat) => over_fwd hfw q
  have HIS := hid fun (q : Nat) (W : World) (h : Rdr W rb s q) (hq : q ≤ s.size) => is_any rb s q 42 W h hq hs (by decide)
  have HNX := hid fun (q : Nat) (W : World) (h : Rdr W rb s q) (hq : q ≤ s.size) => next_any rb s q W h hq
  have HF := hid fun (q : Nat) (W : World) (h : Rdr W rb s q) => fail_any rb s q W h
  have HS := hid hs
  have HW1 := hid hW1
  unfold OvP at HOV
  have hBS : besideP s ab p = match overP s ab p with | .bad e => .bad e | .ok x q => if x.2 = true ∧ byt s q ≠ 42 then .bad q else oneP 2 (allP s 42 (fun p => fstP (overP s ab p)) x.1 q) := rfl
  have hov1 := HOV.out p W1 HR.out hp (Nat.le_refl _)
  have hf1 := HOF.out p
  clear h hW1 hab hfw hs hp
  obtain ⟨rP, hrP⟩ : ∃ r, r = besideP s ab p := ⟨_, rfl⟩
  rw [← hrP] at hBS ⊢
  generalize overP s ab = OV at *
  have HBS := hid hBS
  clear hrP hBS
  go_enter Tryz.func103, Tryz.ntmps103
  go_upto_region 1 with (fail)
  rw [← HW1.out]
  clear HW1
  obtain ⟨a0, ha0⟩ : ∃ a, a = w.heap.size := ⟨_, rfl⟩
  rw [← ha0] at H0 hz hlt
  rw [← ha0]
  have HNE0 := hid (show a0 ≠ rb by omega)
  have HA0 := hid (show w.heap.size ≤ a0 by omega)
  have HA1 := hid (show a0 < W1.heap.size by omega)
  have HR1 := hid (show rb < W1.heap.size by omega)
  have HWZ := hid (show w.heap.size ≤ W1.heap.size by omega)
  have HWE := hid (show W1.heap.size ≤ a0 + 1 by omega)
  clear ha0 hlt hz
  cases hd : OV p with
  | bad e0 =>
    rw [hd] at hov1
    have HX := hid (show rP = .bad e0 by rw [HBS.out, hd])
    clear hd hf1
    go_wp2_with (first | (go_at_call 106; refine hov1.mono ?_; rintro e w3 ⟨⟨rfl, h3⟩, k3⟩; unfold wrongP; have H3 := hid h3; have K3 := hid (HK.out.trans k3); clear h3 k3))
    exact ⟨rfl, ItP.bad HX.out rfl H3.out K3.out⟩
  | ok x0 q0 =>
    rw [hd] at hov1 hf1
    have HX := hid (show rP = if x0.2 = true ∧ byt s q0 ≠ 42 then .bad q0 else oneP 2 (allP s 42 (fun p => fstP (OV p)) x0.1 q0) by rw [HBS.out, hd])
    have HQP := hid hf1.1; have HQS := hid hf1.2
    obtain ⟨x, sh⟩ := x0
    simp only [] at hov1 HX
    clear hd hf1 HBS
    go_upto_region 3 with (first | (go_at_call 106; refine hov1.mono ?_; rintro e w3 ⟨⟨u, rfl, hx, h3⟩, k3⟩; have H3 := hid h3; have K3 := hid (HK.out.trans k3); have HX3 := hid hx; have A3 := hid (H0.out.kp k3 HNE0.out); have HZ3 := hid k3.size; simp only [ivA]; clear h3 k3 hx hov1) | (refine wp_load_it rfl (.tmp 3) rfl _ 0 u rfl (ItB.range (nwB rfl)) ?_; simp only [ivA]))
    obtain ⟨w5, hw5⟩ : ∃ W, W = (w3.alloc (.cells (ivC u).toArray 93)).alloc (.cells (ivC u).toArray 93) := ⟨_, rfl⟩
    obtain ⟨g, hg⟩ : ∃ g, g = w3.heap.size + 1 := ⟨_, rfl⟩
    have hb5 : Below w3.heap.size w3 w5 := by rw [hw5]; exact ((Below.refl _ _).alloc (Nat.le_refl _) _).alloc (by simp) _
    have HKS := hid (show Ks 1 W1.heap.size [] w5 (some ⟨g, 0, none⟩) 1 1 [x] by
      rw [hw5]
      exact Ks.start (HX3.out.under ((Below.refl _ _).alloc (Nat.le_refl _) _)) (by have := HZ3.out; simp; omega) (by rw [hg]; simp) (by simp))
    have H5 := hid (H3.out.keep hb5)
    have A5 := hid (A3.out.below hb5)
    have K5 := hid (K3.out.trans (Kp.of_below hb5))
    simp only [ivC] at hw5
    rw [← hg, ← hw5]
    clear hw5 hg hb5 H3 A3 K3 HX3 HZ3
    obtain ⟨bb, hbb⟩ : ∃ b, b = decide (sh = true ∧ byt s q0 ≠ 42) := ⟨_, rfl⟩
    have HBB := hid hbb
    clear hbb
    go_cut [20] (fun s20 wx => s20 = .bool bb ∧ Hid (Rdr wx rb s q0) ∧ Hid (Ks 1 W1.heap.size [] wx (some ⟨g, 0, none⟩) 1 1 [x]) ∧ Hid (ItB wx a0 iv0) ∧ Hid (Kp rb w wx))
    case first =>
      cases sh with
      | false =>
        have hb2 : bb = false := by rw [HBB.out]; simp
        subst hb2
        go_wp2_with fail
        go_meet
        exact ⟨rfl, H5, HKS, A5, K5⟩
      | true =>
        have hb2 : bb = (byt s q0 != 42) := by rw [HBB.out]; by_cases h : byt s q0 = 42 <;> simp [h]
        subst hb2
        have hn := HNX.out q0 w5 H5.out HQS.out
        go_wp2_with (first | (go_at_call 104; refine hn.mono ?_; rintro e w6 ⟨rfl, h6, k6⟩; have H6 := hid h6; have K6 := hid (K5.out.trans k6); have A6 := hid (A5.out.kp k6 HNE0.out); have S6 := hid (HKS.out.kp k6 HR1.out); clear h6 k6 hn))
        go_meet
        exact ⟨rfl, H6, S6, A6, K6⟩
    obtain ⟨rfl, hR, hS, hA, hK⟩ := hcut
    obtain ⟨w6, hw6⟩ : ∃ W, W = wc := ⟨_, rfl⟩
    rw [← hw6] at hR hS hA hK
    rw [← hw6]
    clear hw6 H5 A5 K5 HKS
    cases hbv : bb with
    | true =>
      have HX2 := hid (show rP = .bad q0 from by
        rw [HX.out, if_pos]
        have := HBB.out
        rw [hbv] at this
        exact of_decide_eq_true this.symm)
      clear hbv HX
      go_wp2_with (first | (go_at_call 28; refine (HF.out _ _ hR.out).mono ?_; rintro e w7 ⟨rfl, rfl⟩; unfold wrongP))
      exact ⟨rfl, ItP.bad HX2.out rfl hR.out hK.out⟩
    | false =>
      have HX2 := hid (show rP = oneP 2 (allP s 42 (fun p => fstP (OV p)) x q0) from by
        rw [HX.out, if_neg]
        have := HBB.out
        rw [hbv] at this
        exact of_decide_eq_false this.symm)
      obtain ⟨R, hRR⟩ : ∃ R, R = allP s 42 (fun p => fstP (OV p)) x q0 := ⟨_, rfl⟩
      rw [← hRR] at HX2
      have HRR := hid (show loopP s 42 (fun p => fstP (OV p)) (s.size + 1 - q0) [x] q0 = R from hRR.symm)
      have HRb := hid hR.out; have HSb := hid hS.out; have HAb := hid hA.out; have HKb := hid hK.out
      clear hbv HX hRR HBB hR hS hA hK
      go_wp2_with fail
      have HFF := hid (show FwF s (fun p => fstP (OV p)) from fun q => fst_fwd (HOF.out q))
      go_loopw [5] (fun kv wr => ∃ (ks : List Itm) (A : Option Addr) (m c q f : Nat), (q ≤ s.size ∧ s.size < f + q ∧ m ≤ q + 1 ∧ q0 ≤ q ∧ 1 ≤ m) ∧ kv = .slice A m c ∧ Hid (loopP s 42 (fun p => fstP (OV p)) f ks q = R) ∧ Hid (Rdr wr rb s q) ∧ Hid (Ks 1 W1.heap.size [] wr A m c ks) ∧ Hid (ItB wr a0 iv0) ∧ Hid (Kp rb w wr)) (fun _ wr => s.size - (intOf ((wr.cell? ⟨rb, 2, none⟩).getD undef)).toNat)
      case atStart => exact ⟨[x], some ⟨g, 0, none⟩, 1, 1, q0, s.size + 1 - q0, ⟨HQS.out, by have := HQS.out; omega, by omega, Nat.le_refl _, by omega⟩, rfl, HRR, HRb, HSb, HAb, HKb⟩
      case round =>
        obtain ⟨ks, A, m, c, q, f, ⟨hq1, hq2, hq3, hq4, hq5⟩, rfl, hL, hR, hS, hA, hK⟩ := hrel
        have HQ := hid (And.intro hq1 (And.intro hq2 (And.intro hq3 (And.intro hq4 hq5))))
        have hI := HIS.out q wr hR.out hq1
        have HS' := hid hS.out; have HL := hid hL.out; have HRw := hid hR.out; have HAw := hid hA.out; have HKw := hid hK.out
        clear hq1 hq2 hq3 hq4 hq5 hL hR hS hA hK HRR HRb HSb HAb HKb
        by_cases h42 : byt s q = 42
        · rw [show decide (byt s q = 42) = true from decide_eq_true h42, show isQ s 42 q = q + 1 from if_pos h42] at hI
          have hqs : q < s.size := byt_in h42 (by decide)
          have HQ1 := hid hqs
          have HV := hid fun (W : World) (h : Rdr W rb s (q + 1)) => HOV.out (q + 1) W h hqs (Nat.le_trans HQP.out (Nat.le_trans HQ.out.2.2.2.1 (Nat.le_succ q)))
          have hfy := HOF.out (q + 1)
          have H42 := hid h42
          clear hqs h42
          cases hd : OV (q + 1) with
          | bad e0 =>
            rw [hd] at HV
            have HX3 := hid (show rP = .bad e0 from by
              rw [HX2.out, ← HL.out, loop_bad H42.out (show fstP (OV (q + 1)) = .bad e0 by rw [hd]; rfl) (by have := HQ.out; omega)]
              rfl)
            clear hd hfy
            go_wp2_with (first | (go_at_call 99; refine hI.mono ?_; rintro e w7 ⟨rfl, h7, k7⟩; have H7 := hid h7; have K7 := hid (HKw.out.trans k7); clear h7 k7 hI) | (go_at_call 106; refine (HV.out _ H7.out).mono ?_; rintro e w8 ⟨⟨rfl, h8⟩, k8⟩; unfold wrongP; have H8 := hid h8; have K8 := hid (K7.out.trans k8); clear h8 k8))
            exact ⟨rfl, ItP.bad HX3.out rfl H8.out K8.out⟩
          | ok y0 q2 =>
            obtain ⟨y, sh2⟩ := y0
            rw [hd] at HV hfy
            have HFY := hid hfy
            have HL2 := hid (show loopP s 42 (fun p => fstP (OV p)) (f - 1) (ks ++ [y]) q2 = R from by
              rw [← HL.out, loop_step H42.out (show fstP (OV (q + 1)) = .ok y q2 by rw [hd]; rfl) (by have := HQ.out; omega)])
            simp only [] at HV
            clear hd hfy
            go_upto_region 7 with (first | (go_at_call 99; refine hI.mono ?_; rintro e w7 ⟨rfl, h7, k7⟩; have H7 := hid h7; have K7 := hid (HKw.out.trans k7); have A7 := hid (HAw.out.kp k7 HNE0.out); have S7 := hid (HS'.out.kp k7 HR1.out); have Z7 := hid k7.size; clear h7 k7 hI) | (go_at_call 106; refine (HV.out _ H7.out).mono ?_; rintro e w8 ⟨⟨u2, rfl, hy, h8⟩, k8⟩; have H8 := hid h8; have K8 := hid (K7.out.trans k8); have A8 := hid (A7.out.kp k8 HNE0.out); have S8 := hid (S7.out.kp k8 HR1.out); have Y8 := hid hy; have Z8 := hid k8.size; simp only [ivA]; clear h8 k8 hy))
            obtain ⟨w9, hw9⟩ : ∃ W, W = w8.alloc (.cells (ivC u2).toArray 93) := ⟨_, rfl⟩
            obtain ⟨g9, hg9⟩ : ∃ g, g = w8.heap.size := ⟨_, rfl⟩
            have hb9 : Below w8.heap.size w8 w9 := by rw [hw9]; exact (Below.refl _ _).alloc (Nat.le_refl _) _
            have H9 := hid (H8.out.keep hb9); have A9 := hid (A8.out.below hb9); have K9 := hid (K8.out.trans (Kp.of_below hb9)); have S9 := hid (S8.out.under hb9); have Y9 := hid (Y8.out.under hb9)
            have B9 := hid (show ItB w9 g9 u2 by rw [hw9, hg9]; exact nwB rfl)
            have Z9 := hid (show w7.heap.size ≤ w9.heap.size from Nat.le_trans Z8.out hb9.size)
            simp only [ivC] at hw9
            rw [← hw9, ← hg9]
            clear hw9 hg9 hb9 H8 A8 K8 S8 Y8 Z8
            obtain ⟨xs, hxs, hun⟩ := Ks.row S9.out
            have hm : m ≤ 10000000000 := by have := HQ.out; have := HS.out; omega
            have hwz : W1.heap.size ≤ w9.heap.size := by have := A9.out.lt; have := HWE.out; omega
            have HOWN := hid fun (o : Obj) => hxs.alloc o
            have HST := hid fun (w4 : World) (A4 : Option Addr) (c4 : Nat) (ho : w4.ownsRow W1.heap.size 93 11 (.slice A4 (m + 1) c4) (m + 1) (xs ++ ivC u2)) (hg : (w9.alloc (.cells (ivC u2).toArray 93)).grownBy w4 (Value.slice A m c).ownBlock) (hf : ∀ k, (Value.slice A4 (m + 1) c4).ownBlock = some k → (Value.slice A m c).ownBlock = some k ∨ (w9.alloc (.cells (ivC u2).toArray 93)).heap.size ≤ k) =>
              (show Ks 1 W1.heap.size [] w4 A4 (m + 1) c4 (ks ++ [y]) ∧ Rdr w4 rb s q2 ∧ ItB w4 a0 iv0 ∧ Kp rb w w4 from by
                have hb : Below w9.heap.size w9 (w9.alloc (.cells (ivC u2).toArray 93)) := (Below.refl _ _).alloc (Nat.le_refl _) _
                have hr : ∀ k, (Value.slice A m c).ownBlock = some k → W1.heap.size ≤ k := fun k e => (S7.out.lt k e).1
                have hkeep : ∀ k, k < W1.heap.size → w4.heap[k]? = w9.heap[k]? := fun k hk => (hg.block k (Nat.lt_of_lt_of_le hk (Nat.le_trans hwz hb.size)) (fun e => by have := hr k e.symm; omega)).trans (hb.block k (by omega))
                refine ⟨Ks.step (n1 := w7.heap.size) (S9.out.under hb) (Y9.out.under hb) (fun k e => (S7.out.lt k e).2) ?_ (by simp) (Nat.le_trans Z9.out hb.size) ?_ rfl ho hg hf, (hkeep rb HR1.out).trans H9.out, (hkeep a0 HA1.out).trans A9.out, (K9.out.trans (Kp.of_below hb)).grown hg (fun k e => Nat.le_trans HWZ.out (hr k e))⟩
                · have := A7.out.lt; have := HWE.out; omega
                · intro vs hvs hvl
                  obtain ⟨xs2, h1, h2⟩ := Ks.row (S9.out.under hb)
                  have e1 := h2 vs hvs hvl
                  obtain ⟨vs0, e2, _, e3, _⟩ := S9.out
                  have e4 := hun vs0 e3 e2
                  have e5 := h2 vs0 (own_keep e3 hb) e2
                  rw [e1, ← e5, e4])
            clear hxs hun H9 A9 K9 S9 Y9 Z9 A7 S7 Z7 HV HIS HNX HF
            go_wp2_with (first | (refine wp_load_it rfl (.tmp 6) rfl g9 0 u2 rfl B9.out.range ?_; simp only [ivA]) | (at_builtin; go_loud (refine app_elemF rfl (.tmp 30) (.tmp 32) Tryz.underItems Tryz.infoItem rfl (by decide) (by decide) rfl W1.heap.size _ m xs rfl (HOWN.out _) ⟨w9.heap.size, 0, none⟩ (ivC u2) rfl rfl (fun j u h => cell_news_at w9 (ivC u2) _ rfl j u h) (by simp [ivC, Value.oneCell']) hm (by simp; omega) ?_); intro v5 w5 ho5 hg5 hf5; obtain ⟨A5, c5, rfl⟩ := own_slice ho5; obtain ⟨n1, n2, n3, n4⟩ := HST.out _ _ _ ho5 hg5 hf5; have N1 := hid n1; have N2 := hid n2; have N3 := hid n3; have N4 := hid n4; clear n1 n2 n3 n4 ho5 hg5 hf5))
            go_roundw
            case rel => exact ⟨ks ++ [y], A5, m + 1, c5, q2, f - 1, ⟨HFY.out.2, by have := HQ.out; have := HFY.out.1; omega, by have := HQ.out; have := HFY.out.1; omega, by have := HQ.out; have := HFY.out.1; omega, by omega⟩, rfl, HL2, N2, N1, N3, N4⟩
            case measure =>
              rw [HRw.out.cells.c2, N2.out.cells.c2]
              simp only [Option.getD_some, intOf]
              have := HQ1.out; have := HFY.out.1
              omega
        · rw [show decide (byt s q = 42) = false from decide_eq_false h42, show isQ s 42 q = q from if_neg h42] at hI
          have HX3 := hid (show rP = .ok (oneI 2 ks) q from by
            rw [HX2.out, ← HL.out, loop_end h42 (by have := HQ.out; omega)]
            rfl)
          have hm1 : 1 ≤ m := by have := HQ.out; omega
          clear h42
          go_wp2_with (first | (go_at_call 99; refine hI.mono ?_; rintro e w7 ⟨rfl, h7, k7⟩; have H7 := hid h7; have K7 := hid (HKw.out.trans k7); have A7 := hid (HAw.out.kp k7 HNE0.out); have S7 := hid (HS'.out.kp k7 HR1.out); clear h7 k7 hI) | (go_at_call 105; refine (one_any 2 W1.heap.size ks A m c _ S7.out hm1).mono ?_; rintro e w8 ⟨u2, rfl, hx8, hb8⟩; have H8 := hid (H7.out.keep hb8); have K8 := hid (K7.out.trans (Kp.of_below hb8)); have A8 := hid (A7.out.below hb8); have X8 := hid hx8; clear hx8 hb8) | (refine wp_store_it rfl (.tmp 2) (.tmp 35) rfl a0 iv0 u2 rfl rfl A8.out ?_; intro wz hz gz))
          have hc := hz.cells
          have k0 := hc.k0; have k1 := hc.k1; have k2 := hc.k2; have k3 := hc.k3; have k4 := hc.k4; have k5 := hc.k5; have k6 := hc.k6; have k7 := hc.k7; have k8 := hc.k8; have k9 := hc.k9; have k10 := hc.k10
          refine bodyPost_ret (v := ivA u2) (by simp [results, Tryz.results103, go_sem, k0, k1, k2, k3, k4, k5, k6, k7, k8, k9, k10, ivA]) rfl ?_
          exact ItP.ok HX3.out rfl (X8.out.ret gz HA1.out HWZ.out) (kp_rdr H8.out gz HNE0.out) (kp_new K8.out gz HA0.out)
end Go.Proofs.YtimblabaeclhpaaGreat

/- WALK: the reader's above, for any string (printed by gen_abvr.py). -/
namespace Go.Proofs.YtimblabaeclhpaaGreat
open Go.RowKit
/-- One more item behind a call that made it. -/
theorem Ks.grow {n0 : Nat} {Lx : List Nat} {w7 w8 : World} {A : Option Addr} {m c : Nat} {ks : List Itm} {u2 : Iv} {y : Itm} (S7 : Ks 1 n0 Lx w7 A m c ks) (S8 : Ks 1 n0 Lx w8 A m c ks) (hz : w7.heap.size ≤ w8.heap.size) (h07 : n0 ≤ w7.heap.size) (hl : ∀ b ∈ Lx, b < w7.heap.size) (Y8 : ItX 1 w7.heap.size [] w8 u2 y) :
    ∃ xs, (∀ o, (w8.alloc o).ownsRow n0 93 11 (.slice A m c) m xs) ∧ ∀ (w4 : World) (A4 : Option Addr) (c4 : Nat), w4.ownsRow n0 93 11 (.slice A4 (m + 1) c4) (m + 1) (xs ++ ivC u2) → (w8.alloc (.cells (ivC u2).toArray 93)).grownBy w4 (Value.slice A m c).ownBlock →
      (∀ k, (Value.slice A4 (m + 1) c4).ownBlock = some k → (Value.slice A m c).ownBlock = some k ∨ (w8.alloc (.cells (ivC u2).toArray 93)).heap.size ≤ k) →
      Ks 1 n0 Lx w4 A4 (m + 1) c4 (ks ++ [y]) ∧ (∀ k, (k < n0 ∨ k ∈ Lx) → w4.heap[k]? = w8.heap[k]?) ∧ ∀ (rb : Nat) (a : World), Kp rb a w8 → a.heap.size ≤ n0 → Kp rb a w4 := by
  obtain ⟨xs, hxs, hun⟩ := Ks.row S8
  refine ⟨xs, fun o => hxs.alloc o, fun w4 A4 c4 ho hg hf => ?_⟩
  have hb : Below w8.heap.size w8 (w8.alloc (.cells (ivC u2).toArray 93)) := (Below.refl _ _).alloc (Nat.le_refl _) _
  have hr : ∀ k, (Value.slice A m c).ownBlock = some k → n0 ≤ k := fun k e => (S7.lt k e).1
  have hnl : ∀ k, (Value.slice A m c).ownBlock = some k → k ∉ Lx := by obtain ⟨_, _, _, _, h4, _⟩ := S7; exact h4
  have hkeep : ∀ k, (k < n0 ∨ k ∈ Lx) → w4.heap[k]? = w8.heap[k]? := fun k hk => by
    have h8 : k < w8.heap.size := by
      rcases hk with hk | hk
      · omega
      · have := hl k hk; omega
    exact (hg.block k (Nat.lt_of_lt_of_le h8 hb.size) (fun e => by
      rcases hk with hk | hk
      · have := hr k e.symm; omega
      · exact hnl k e.symm hk)).trans (hb.block k h8)
  refine ⟨Ks.step (n1 := w7.heap.size) (S8.under hb) (Y8.under hb) (fun k e => (S7.lt k e).2) h07 hl (Nat.le_trans hz hb.size) ?_ rfl ho hg hf, hkeep, fun rb a ha hn => (ha.trans (Kp.of_below hb)).grown hg (fun k e => Nat.le_trans hn (hr k e))⟩
  intro vs hvs hvl
  obtain ⟨xs2, h1, h2⟩ := Ks.row (S8.under hb)
  have e1 := h2 vs hvs hvl
  obtain ⟨vs0, e2, _, e3, _⟩ := S8
  have e4 := hun vs0 e3 e2
  have e5 := h2 vs0 (own_keep e3 hb) e2
  rw [e1, ← e5, e4]
set_option maxRecDepth 100000 in
set_option maxHeartbeats 4000000 in
theorem above_one (ab : AbF) (within : Bool) (rb : Nat) (s : ByteArray) (p : Nat) (w : World) (h : Rdr w rb s p) (hp : p ≤ s.size) (hs : s.size ≤ 1000000)
    (hab : ∀ (q : Nat) (wi : Bool) (W : World), p < q → q ≤ s.size → Rdr W rb s q → Calls Tryz.prog 102 #[.pointer (some ⟨rb, 0, none⟩), .bool wi] W (ItP s rb W (ab q wi))) (hfw : ∀ w, FwF s fun p => ab p w) :
    Calls Tryz.prog 102 #[.pointer (some ⟨rb, 0, none⟩), .bool within] w (ItP s rb w (aboveP s ab p within)) := by
  obtain ⟨W1, hW1⟩ : ∃ W1, W1 = w.alloc (.cells #[.int .i64 0, .int .i64 0, .int .i64 0, .int .i64 0, .bool false, .int .i64 0, .int .i64 0, .int .i64 0, .string ⟨#[]⟩, .int .i64 0, .slice none 0 0] 93) := ⟨_, rfl⟩
  have HB := hid (show Below w.heap.size w W1 by rw [hW1]; exact (Below.refl _ _).alloc (Nat.le_refl _) _)
  have HR := hid (h.keep HB.out)
  have H0 := hid (show ItB W1 w.heap.size iv0 by rw [hW1]; exact nwB rfl)
  have HK := hid (show Kp rb w W1 from Kp.of_below HB.out)
  have hlt := h.lt
  have hz : W1.heap.size = w.heap.size + 1 := by rw [hW1]; simp
  have HOV := hid fun (q : Nat) (W : World) (h : Rdr W rb s q) (hq : q ≤ s.size) (hpq : p ≤ q) => beside_anyR ab rb s q W h hq hs (fun r wi W' h1 h2 h3 => hab r wi W' (Nat.lt_of_le_of_lt hpq h1) h2 h3) hfw
  have HOF := hid fun (q : Nat) => beside_fwd hfw q
  have HIS := hid fun (q : Nat) (W : World) (h : Rdr W rb s q) (hq : q ≤ s.size) => is_any rb s q 58 W h hq hs (by decide)
  have HNX := hid fun (q : Nat) (W : World) (h : Rdr W rb s q) (hq : q ≤ s.size) => next_any rb s q W h hq
  have HF := hid fun (q : Nat) (W : World) (h : Rdr W rb s q) => fail_any rb s q W h
  have HS := hid hs
  have HW1 := hid hW1
  unfold ItP at HOV
  have hBS : aboveP s ab p within = match besideP s ab p with | .bad e => .bad e | .ok x q => if within = true ∧ byt s q ≠ 58 then .bad q else oneP 3 (allP s 58 (besideP s ab) x q) := rfl
  have hov1 := HOV.out p W1 HR.out hp (Nat.le_refl _)
  have hf1 := HOF.out p
  clear h hW1 hab hfw hs hp
  obtain ⟨rP, hrP⟩ : ∃ r, r = aboveP s ab p within := ⟨_, rfl⟩
  rw [← hrP] at hBS ⊢
  generalize besideP s ab = OV at *
  have HBS := hid hBS
  clear hrP hBS
  go_enter Tryz.func102, Tryz.ntmps102
  go_upto_region 1 with (fail)
  rw [← HW1.out]
  clear HW1
  obtain ⟨a0, ha0⟩ : ∃ a, a = w.heap.size := ⟨_, rfl⟩
  rw [← ha0] at H0 hz hlt
  rw [← ha0]
  have HNE0 := hid (show a0 ≠ rb by omega)
  have HA0 := hid (show w.heap.size ≤ a0 by omega)
  have HA1 := hid (show a0 < W1.heap.size by omega)
  have HR1 := hid (show rb < W1.heap.size by omega)
  have HWZ := hid (show w.heap.size ≤ W1.heap.size by omega)
  have HWE := hid (show W1.heap.size ≤ a0 + 1 by omega)
  clear ha0 hlt hz
  cases hd : OV p with
  | bad e0 =>
    rw [hd] at hov1
    have HX := hid (show rP = .bad e0 by rw [HBS.out, hd])
    clear hd hf1
    go_wp2_with (first | (go_at_call 103; refine hov1.mono ?_; rintro e w3 ⟨⟨rfl, h3⟩, k3⟩; unfold wrongP; have H3 := hid h3; have K3 := hid (HK.out.trans k3); clear h3 k3))
    exact ⟨rfl, ItP.bad HX.out rfl H3.out K3.out⟩
  | ok x q0 =>
    rw [hd] at hov1 hf1
    have HX := hid (show rP = if within = true ∧ byt s q0 ≠ 58 then .bad q0 else oneP 3 (allP s 58 OV x q0) by rw [HBS.out, hd])
    have HQP := hid hf1.1; have HQS := hid hf1.2
    simp only [] at hov1
    clear hd hf1 HBS
    go_upto_region 2 with (first | (go_at_call 103; refine hov1.mono ?_; rintro e w3 ⟨⟨u, rfl, hx, h3⟩, k3⟩; have H3 := hid h3; have K3 := hid (HK.out.trans k3); have HX3 := hid hx; have A3 := hid (H0.out.kp k3 HNE0.out); have HZ3 := hid k3.size; simp only [ivA]; clear h3 k3 hx hov1))
    obtain ⟨w5, hw5⟩ : ∃ W, W = w3.alloc (.cells (ivC u).toArray 93) := ⟨_, rfl⟩
    obtain ⟨g, hg⟩ : ∃ g, g = w3.heap.size := ⟨_, rfl⟩
    have hb5 : Below w3.heap.size w3 w5 := by rw [hw5]; exact (Below.refl _ _).alloc (Nat.le_refl _) _
    have HKS := hid (show Ks 1 W1.heap.size [] w5 (some ⟨g, 0, none⟩) 1 1 [x] by
      rw [hw5]
      exact Ks.start HX3.out HZ3.out hg (by simp))
    have H5 := hid (H3.out.keep hb5)
    have A5 := hid (A3.out.below hb5)
    have K5 := hid (K3.out.trans (Kp.of_below hb5))
    simp only [ivC] at hw5
    rw [← hg, ← hw5]
    clear hw5 hg hb5 H3 A3 K3 HX3 HZ3
    obtain ⟨bb, hbb⟩ : ∃ b, b = decide (within = true ∧ byt s q0 ≠ 58) := ⟨_, rfl⟩
    have HBB := hid hbb
    clear hbb
    go_cut [14] (fun s14 wx => s14 = .bool bb ∧ Hid (Rdr wx rb s q0) ∧ Hid (Ks 1 W1.heap.size [] wx (some ⟨g, 0, none⟩) 1 1 [x]) ∧ Hid (ItB wx a0 iv0) ∧ Hid (Kp rb w wx))
    case first =>
      cases within with
      | false =>
        have hb2 : bb = false := by rw [HBB.out]; simp
        subst hb2
        go_wp2_with fail
        go_meet
        exact ⟨rfl, H5, HKS, A5, K5⟩
      | true =>
        have hb2 : bb = (byt s q0 != 58) := by rw [HBB.out]; by_cases h : byt s q0 = 58 <;> simp [h]
        subst hb2
        have hn := HNX.out q0 w5 H5.out HQS.out
        go_wp2_with (first | (go_at_call 104; refine hn.mono ?_; rintro e w6 ⟨rfl, h6, k6⟩; have H6 := hid h6; have K6 := hid (K5.out.trans k6); have A6 := hid (A5.out.kp k6 HNE0.out); have S6 := hid (HKS.out.kp k6 HR1.out); clear h6 k6 hn))
        go_meet
        exact ⟨rfl, H6, S6, A6, K6⟩
    obtain ⟨rfl, hR, hS, hA, hK⟩ := hcut
    obtain ⟨w6, hw6⟩ : ∃ W, W = wc := ⟨_, rfl⟩
    rw [← hw6] at hR hS hA hK
    rw [← hw6]
    clear hw6 H5 A5 K5 HKS
    cases hbv : bb with
    | true =>
      have HX2 := hid (show rP = .bad q0 from by
        rw [HX.out, if_pos]
        have := HBB.out
        rw [hbv] at this
        exact of_decide_eq_true this.symm)
      clear hbv HX
      go_wp2_with (first | (go_at_call 28; refine (HF.out _ _ hR.out).mono ?_; rintro e w7 ⟨rfl, rfl⟩; unfold wrongP))
      exact ⟨rfl, ItP.bad HX2.out rfl hR.out hK.out⟩
    | false =>
      have HX2 := hid (show rP = oneP 3 (allP s 58 OV x q0) from by
        rw [HX.out, if_neg]
        have := HBB.out
        rw [hbv] at this
        exact of_decide_eq_false this.symm)
      obtain ⟨R, hRR⟩ : ∃ R, R = allP s 58 OV x q0 := ⟨_, rfl⟩
      rw [← hRR] at HX2
      have HRR := hid (show loopP s 58 OV (s.size + 1 - q0) [x] q0 = R from hRR.symm)
      have HRb := hid hR.out; have HSb := hid hS.out; have HAb := hid hA.out; have HKb := hid hK.out
      clear hbv HX hRR HBB hR hS hA hK
      go_wp2_with fail
      go_loopw [5] (fun kv wr => ∃ (ks : List Itm) (A : Option Addr) (m c q f : Nat), (q ≤ s.size ∧ s.size < f + q ∧ m ≤ q + 1 ∧ q0 ≤ q ∧ 1 ≤ m) ∧ kv = .slice A m c ∧ Hid (loopP s 58 OV f ks q = R) ∧ Hid (Rdr wr rb s q) ∧ Hid (Ks 1 W1.heap.size [] wr A m c ks) ∧ Hid (ItB wr a0 iv0) ∧ Hid (Kp rb w wr)) (fun _ wr => s.size - (intOf ((wr.cell? ⟨rb, 2, none⟩).getD undef)).toNat)
      case atStart => exact ⟨[x], some ⟨g, 0, none⟩, 1, 1, q0, s.size + 1 - q0, ⟨HQS.out, by have := HQS.out; omega, by omega, Nat.le_refl _, by omega⟩, rfl, HRR, HRb, HSb, HAb, HKb⟩
      case round =>
        obtain ⟨ks, A, m, c, q, f, ⟨hq1, hq2, hq3, hq4, hq5⟩, rfl, hL, hR, hS, hA, hK⟩ := hrel
        have HQ := hid (And.intro hq1 (And.intro hq2 (And.intro hq3 (And.intro hq4 hq5))))
        have hI := HIS.out q wr hR.out hq1
        have HS' := hid hS.out; have HL := hid hL.out; have HRw := hid hR.out; have HAw := hid hA.out; have HKw := hid hK.out
        clear hq1 hq2 hq3 hq4 hq5 hL hR hS hA hK HRR HRb HSb HAb HKb
        by_cases h58 : byt s q = 58
        · rw [show decide (byt s q = 58) = true from decide_eq_true h58, show isQ s 58 q = q + 1 from if_pos h58] at hI
          have hqs : q < s.size := byt_in h58 (by decide)
          have HQ1 := hid hqs
          have HV := hid fun (W : World) (h : Rdr W rb s (q + 1)) => HOV.out (q + 1) W h hqs (Nat.le_trans HQP.out (Nat.le_trans HQ.out.2.2.2.1 (Nat.le_succ q)))
          have hfy := HOF.out (q + 1)
          have H58 := hid h58
          clear hqs h58
          cases hd : OV (q + 1) with
          | bad e0 =>
            rw [hd] at HV
            have HX3 := hid (show rP = .bad e0 from by
              rw [HX2.out, ← HL.out, loop_bad H58.out hd (by have := HQ.out; omega)]
              rfl)
            clear hd hfy
            go_wp2_with (first | (go_at_call 99; refine hI.mono ?_; rintro e w7 ⟨rfl, h7, k7⟩; have H7 := hid h7; have K7 := hid (HKw.out.trans k7); clear h7 k7 hI) | (go_at_call 103; refine (HV.out _ H7.out).mono ?_; rintro e w8 ⟨⟨rfl, h8⟩, k8⟩; unfold wrongP; have H8 := hid h8; have K8 := hid (K7.out.trans k8); clear h8 k8))
            exact ⟨rfl, ItP.bad HX3.out rfl H8.out K8.out⟩
          | ok y q2 =>
            rw [hd] at HV hfy
            have HFY := hid hfy
            have HL2 := hid (show loopP s 58 OV (f - 1) (ks ++ [y]) q2 = R from by
              rw [← HL.out, loop_step H58.out hd (by have := HQ.out; omega)])
            simp only [] at HV
            have hm : m ≤ 10000000000 := by have := HQ.out; have := HS.out; omega
            clear hd hfy
            go_upto_region 5 with (first | (go_at_call 99; refine hI.mono ?_; rintro e w7 ⟨rfl, h7, k7⟩; have H7 := hid h7; have K7 := hid (HKw.out.trans k7); have A7 := hid (HAw.out.kp k7 HNE0.out); have S7 := hid (HS'.out.kp k7 HR1.out); clear h7 k7 hI))
            have hw7 : W1.heap.size ≤ w7.heap.size := by have := A7.out.lt; have := HWE.out; omega
            clear HIS HNX HF
            go_wp2_with (first | (go_at_call 103; refine (HV.out _ H7.out).mono ?_; rintro e w8 ⟨⟨u2, rfl, hy, h8⟩, k8⟩; have H8 := hid h8; have K8 := hid (K7.out.trans k8); have A8 := hid (A7.out.kp k8 HNE0.out); have hz8 := k8.size; obtain ⟨xs, hown, hst⟩ := S7.out.grow (S7.out.kp k8 HR1.out) k8.size hw7 (by simp) hy; have HOWN := hid hown; have HST := hid hst; simp only [ivA]; clear h8 k8 hy hown hst) | (at_builtin; go_loud (refine app_elemF rfl (.tmp 19) (.tmp 22) Tryz.underItems Tryz.infoItem rfl (by decide) (by decide) rfl W1.heap.size _ m xs rfl (HOWN.out _) ⟨w8.heap.size, 0, none⟩ (ivC u2) rfl rfl (fun j u h => cell_news_at w8 (ivC u2) _ rfl j u h) (by simp [ivC, Value.oneCell']) hm (by simp; omega) ?_); intro v5 w5 ho5 hg5 hf5; obtain ⟨A5, c5, rfl⟩ := own_slice ho5; obtain ⟨n1, n2, n3⟩ := HST.out _ _ _ ho5 hg5 hf5; have N1 := hid n1; have N2 := hid (show Rdr w5 rb s q2 from (n2 rb (.inl HR1.out)).trans H8.out); have N3 := hid (show ItB w5 a0 iv0 from (n2 a0 (.inl HA1.out)).trans A8.out); have N4 := hid (n3 rb w K8.out HWZ.out); clear n1 n2 n3 ho5 hg5 hf5))
            go_roundw
            case rel => exact ⟨ks ++ [y], A5, m + 1, c5, q2, f - 1, ⟨HFY.out.2, by have := HQ.out; have := HFY.out.1; omega, by have := HQ.out; have := HFY.out.1; omega, by have := HQ.out; have := HFY.out.1; omega, by omega⟩, rfl, HL2, N2, N1, N3, N4⟩
            case measure =>
              rw [HRw.out.cells.c2, N2.out.cells.c2]
              simp only [Option.getD_some, intOf]
              have := HQ1.out; have := HFY.out.1
              omega
        · rw [show decide (byt s q = 58) = false from decide_eq_false h58, show isQ s 58 q = q from if_neg h58] at hI
          have HX3 := hid (show rP = .ok (oneI 3 ks) q from by
            rw [HX2.out, ← HL.out, loop_end h58 (by have := HQ.out; omega)]
            rfl)
          have hm1 : 1 ≤ m := by have := HQ.out; omega
          clear h58
          go_wp2_with (first | (go_at_call 99; refine hI.mono ?_; rintro e w7 ⟨rfl, h7, k7⟩; have H7 := hid h7; have K7 := hid (HKw.out.trans k7); have A7 := hid (HAw.out.kp k7 HNE0.out); have S7 := hid (HS'.out.kp k7 HR1.out); clear h7 k7 hI) | (go_at_call 105; refine (one_any 3 W1.heap.size ks A m c _ S7.out hm1).mono ?_; rintro e w8 ⟨u2, rfl, hx8, hb8⟩; have H8 := hid (H7.out.keep hb8); have K8 := hid (K7.out.trans (Kp.of_below hb8)); have A8 := hid (A7.out.below hb8); have X8 := hid hx8; clear hx8 hb8) | (refine wp_store_it rfl (.tmp 4) (.tmp 25) rfl a0 iv0 u2 rfl rfl A8.out ?_; intro wz hz gz))
          have hc := hz.cells
          have k0 := hc.k0; have k1 := hc.k1; have k2 := hc.k2; have k3 := hc.k3; have k4 := hc.k4; have k5 := hc.k5; have k6 := hc.k6; have k7 := hc.k7; have k8 := hc.k8; have k9 := hc.k9; have k10 := hc.k10
          refine bodyPost_ret (v := ivA u2) (by simp [results, Tryz.results102, go_sem, k0, k1, k2, k3, k4, k5, k6, k7, k8, k9, k10, ivA]) rfl ?_
          exact ItP.ok HX3.out rfl (X8.out.ret gz HA1.out HWZ.out) (kp_rdr H8.out gz HNE0.out) (kp_new K8.out gz HA0.out)
theorem above_lvl (rb : Nat) (s : ByteArray) (hs : s.size ≤ 1000000) : ∀ (n p : Nat) (wi : Bool) (w : World), s.size - p ≤ n → p ≤ s.size → Rdr w rb s p →
    Calls Tryz.prog 102 #[.pointer (some ⟨rb, 0, none⟩), .bool wi] w (ItP s rb w (aboveN s n p wi))
  | 0, p, wi, w, hn, hp, h => above_one (fun p _ => .bad p) wi rb s p w h hp hs (fun q _ _ h1 h2 _ => by omega) (fun _ _ => trivial)
  | n + 1, p, wi, w, hn, hp, h => above_one (aboveN s n) wi rb s p w h hp hs (fun q wi' W h1 h2 h3 => above_lvl rb s hs n q wi' W (by omega) h2 h3) (aboveN_fwd s n)
/-- The reader's above, for any string. -/
theorem above_anyR (rb : Nat) (s : ByteArray) (p : Nat) (wi : Bool) (w : World) (h : Rdr w rb s p) (hp : p ≤ s.size) (hs : s.size ≤ 1000000) :
    Calls Tryz.prog 102 #[.pointer (some ⟨rb, 0, none⟩), .bool wi] w (ItP s rb w (aboveS s p wi)) := above_lvl rb s hs (s.size - p) p wi w (Nat.le_refl _) hp h
end Go.Proofs.YtimblabaeclhpaaGreat
