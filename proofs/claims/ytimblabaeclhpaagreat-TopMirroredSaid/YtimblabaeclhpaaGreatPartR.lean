/- WALK: the reader's part (printed by gen_partr.py). -/
import Derived.Test.YtimblabaeclhpaaGreatBesR
namespace Go.Proofs.YtimblabaeclhpaaGreat
open Go.RowKit
set_option maxRecDepth 100000 in
set_option maxHeartbeats 4000000 in
theorem part_anyR (rb : Nat) (s : ByteArray) (p : Nat) (w : World) (h : Rdr w rb s p) (hp : p ≤ s.size) (hs : s.size ≤ 1000000) :
    Calls Tryz.prog 100 #[.pointer (some ⟨rb, 0, none⟩)] w (ItP s rb w (partP s p)) := by
  obtain ⟨W1, hW1⟩ : ∃ W1, W1 = w.alloc (.cells #[.int .i64 0, .int .i64 0, .int .i64 0, .int .i64 0, .bool false, .int .i64 0, .int .i64 0, .int .i64 0, .string ⟨#[]⟩, .int .i64 0, .slice none 0 0] 93) := ⟨_, rfl⟩
  have HB := hid (show Below w.heap.size w W1 by rw [hW1]; exact (Below.refl _ _).alloc (Nat.le_refl _) _)
  have HR := hid (h.keep HB.out)
  have H0 := hid (show ItB W1 w.heap.size iv0 by rw [hW1]; exact nwB rfl)
  have HK := hid (show Kp rb w W1 from Kp.of_below HB.out)
  have hlt := h.lt
  have hz : W1.heap.size = w.heap.size + 1 := by rw [hW1]; simp
  have hIS := is_any rb s p 91 W1 HR.out hp hs (by decide)
  have HOV := hid fun (q : Nat) (W : World) (h : Rdr W rb s q) (hq : q ≤ s.size) => above_anyR rb s q false W h hq hs
  have HOF := hid fun (q : Nat) => aboveS_fwd s false q
  have HIS := hid fun (q : Nat) (W : World) (h : Rdr W rb s q) (hq : q ≤ s.size) => is_any rb s q 59 W h hq hs (by decide)
  have HMU := hid fun (q : Nat) (W : World) (h : Rdr W rb s q) (hq : q ≤ s.size) => must_any rb s q 93 W h hq hs (by decide)
  have HS := hid hs
  have HP := hid hp
  have HW1 := hid hW1
  unfold ItP at HOV
  have hBS : partP s p = if byt s p = 91 then (match (fun p => aboveS s p false) (p + 1) with | .bad e => .bad e | .ok x q => shutP s 7 93 (allP s 59 ((fun p => aboveS s p false)) x q)) else (fun p => aboveS s p false) p := rfl
  clear h hW1 hs hp
  obtain ⟨rP, hrP⟩ : ∃ r, r = partP s p := ⟨_, rfl⟩
  rw [← hrP] at hBS ⊢
  obtain ⟨OV, hOV⟩ : ∃ F : Nat → PR Itm, F = (fun p => aboveS s p false) := ⟨_, rfl⟩
  have HOF2 := hid fun q => (show (OV q).fwd s q from by rw [hOV]; exact HOF.out q)
  have HOV2 := hid fun (q : Nat) (W : World) (h : Rdr W rb s q) (hq : q ≤ s.size) => (show Calls Tryz.prog 102 #[.pointer (some ⟨rb, 0, none⟩), .bool false] W fun e w' => (match OV q with
      | .bad q => e = wrongP q ∧ Rdr w' rb s q
      | .ok x q => ∃ v, e = .returned (ivA v) ∧ ItX 1 W.heap.size [] w' v x ∧ Rdr w' rb s q) ∧ Kp rb W w' from by rw [hOV]; exact HOV.out q W h hq)
  have hBS2 : rP = if byt s p = 91 then (match OV (p + 1) with | .bad e => .bad e | .ok x q => shutP s 7 93 (allP s 59 OV x q)) else OV p := by rw [hOV]; exact hBS
  have HBS := hid hBS2
  clear hrP hBS hBS2 HOV HOF hOV
  go_enter Tryz.func100, Tryz.ntmps100
  go_upto_region 1 with (fail)
  rw [← HW1.out]
  clear HW1
  obtain ⟨a0, ha0⟩ : ∃ a, a = w.heap.size := ⟨_, rfl⟩
  rw [← ha0] at H0 hz hlt
  rw [← ha0]
  have HNE0 := hid (show a0 ≠ rb by omega)
  have HA0 := hid (show w.heap.size ≤ a0 by omega)
  have HA1 := hid (show a0 < W1.heap.size by omega)
  have HR1 := hid (show rb < W1.heap.size by omega)
  have HWZ := hid (show w.heap.size ≤ W1.heap.size by omega)
  have HWE := hid (show W1.heap.size ≤ a0 + 1 by omega)
  clear ha0 hlt hz
  by_cases hop : byt s p = 91
  rotate_left
  · rw [show decide (byt s p = 91) = false from decide_eq_false hop, show isQ s 91 p = p from if_neg hop] at hIS
    have HX := hid (show rP = OV p by rw [HBS.out, if_neg hop])
    have HA := hid fun (W : World) (h : Rdr W rb s p) => HOV2.out p W h HP.out
    clear hop HBS
    cases hd : OV p with
    | bad e0 =>
      rw [hd] at HA HX
      clear hd
      go_wp2_with (first | (go_at_call 99; refine hIS.mono ?_; rintro e w2 ⟨rfl, h2, k2⟩; have H2 := hid h2; have K2 := hid (HK.out.trans k2); clear h2 k2 hIS) | (go_at_call 102; refine (HA.out _ H2.out).mono ?_; rintro e w3 ⟨⟨rfl, h3⟩, k3⟩; unfold wrongP; have H3 := hid h3; have K3 := hid (K2.out.trans k3); clear h3 k3))
      exact ⟨rfl, ItP.bad HX.out rfl H3.out K3.out⟩
    | ok x q =>
      rw [hd] at HA HX
      clear hd
      go_wp2_with (first | (go_at_call 99; refine hIS.mono ?_; rintro e w2 ⟨rfl, h2, k2⟩; have H2 := hid h2; have K2 := hid (HK.out.trans k2); have A2 := hid (H0.out.kp k2 HNE0.out); clear h2 k2 hIS) | (go_at_call 102; refine (HA.out _ H2.out).mono ?_; rintro e w3 ⟨⟨u, rfl, hx, h3⟩, k3⟩; have H3 := hid h3; have K3 := hid (K2.out.trans k3); have HX3 := hid hx; have A3 := hid (A2.out.kp k3 HNE0.out); have HSZ := hid A2.out.lt; clear h3 k3 hx) | (refine wp_store_it rfl (.tmp 2) (.tmp 8) rfl a0 iv0 u rfl rfl A3.out ?_; intro wz hz gz))
      have hc := hz.cells
      have k0 := hc.k0; have k1 := hc.k1; have k2 := hc.k2; have k3 := hc.k3; have k4 := hc.k4; have k5 := hc.k5; have k6 := hc.k6; have k7 := hc.k7; have k8 := hc.k8; have k9 := hc.k9; have k10 := hc.k10
      refine bodyPost_ret (v := ivA u) (by simp [results, Tryz.results100, go_sem, k0, k1, k2, k3, k4, k5, k6, k7, k8, k9, k10, ivA]) rfl ?_
      exact ItP.ok HX.out rfl (HX3.out.ret gz HSZ.out (Nat.le_of_lt (Nat.lt_of_le_of_lt HA0.out HSZ.out))) (kp_rdr H3.out gz HNE0.out) (kp_new K3.out gz HA0.out)
  · have hps : p < s.size := byt_in hop (by decide)
    have HX := hid (show rP = (match OV (p + 1) with | .bad e => .bad e | .ok x q => shutP s 7 93 (allP s 59 OV x q)) by rw [HBS.out, if_pos hop])
    rw [show decide (byt s p = 91) = true from decide_eq_true hop, show isQ s 91 p = p + 1 from if_pos hop] at hIS
    have HA := hid fun (W : World) (h : Rdr W rb s (p + 1)) => HOV2.out (p + 1) W h hps
    have hf := HOF2.out (p + 1)
    clear hop HBS
    cases hd : OV (p + 1) with
    | bad e0 =>
      rw [hd] at HA HX
      clear hd hf
      go_wp2_with (first | (go_at_call 99; refine hIS.mono ?_; rintro e w2 ⟨rfl, h2, k2⟩; have H2 := hid h2; have K2 := hid (HK.out.trans k2); clear h2 k2 hIS) | (go_at_call 102; refine (HA.out _ H2.out).mono ?_; rintro e w3 ⟨⟨rfl, h3⟩, k3⟩; unfold wrongP; have H3 := hid h3; have K3 := hid (K2.out.trans k3); clear h3 k3))
      exact ⟨rfl, ItP.bad HX.out rfl H3.out K3.out⟩
    | ok x q0 =>
      rw [hd] at HA HX hf
      have HQS := hid hf.2
      simp only [] at HX
      clear hd hf
      go_upto_block 0 with (first | (go_at_call 99; refine hIS.mono ?_; rintro e w2 ⟨rfl, h2, k2⟩; have H2 := hid h2; have K2 := hid (HK.out.trans k2); have A2 := hid (H0.out.kp k2 HNE0.out); have HZ2 := hid k2.size; clear h2 k2 hIS) | (go_at_call 102; refine (HA.out _ H2.out).mono ?_; rintro e w3 ⟨⟨u, rfl, hx, h3⟩, k3⟩; have H3 := hid h3; have K3 := hid (K2.out.trans k3); have HX3 := hid (hx.more (n0 := W1.heap.size) HZ2.out (by simp) : ItX 1 W1.heap.size [] w3 u x); have A3 := hid (A2.out.kp k3 HNE0.out); have HZ3 := hid (Nat.le_trans HZ2.out k3.size); simp only [ivA]; clear h3 k3 hx))
      obtain ⟨g, hg⟩ : ∃ g, g = w3.heap.size := ⟨_, rfl⟩
      obtain ⟨a1, ha1⟩ : ∃ a, a = w3.heap.size + 1 := ⟨_, rfl⟩
      obtain ⟨w5, hw5⟩ : ∃ W, W = (w3.alloc (.cells (ivC u).toArray 93)).alloc (.cells (ivC ⟨kN 7, ⟨#[]⟩, 0, some ⟨g, 0, none⟩, 1, 1⟩).toArray 93) := ⟨_, rfl⟩
      have hb5 : Below w3.heap.size w3 w5 := by rw [hw5]; exact ((Below.refl _ _).alloc (Nat.le_refl _) _).alloc (by simp) _
      have HKS := hid (show Ks 1 W1.heap.size [a1] w5 (some ⟨g, 0, none⟩) 1 1 [x] by
        rw [hw5]
        exact (Ks.start HX3.out HZ3.out hg (by simp)).add (by rw [ha1]; simp) _)
      have H5 := hid (H3.out.keep hb5)
      have A5 := hid (A3.out.below hb5)
      have B5 := hid (show ItB w5 a1 ⟨kN 7, ⟨#[]⟩, 0, some ⟨g, 0, none⟩, 1, 1⟩ by rw [hw5]; exact nwB (by rw [ha1]; simp))
      have K5 := hid (K3.out.trans (Kp.of_below hb5))
      have HNE1 := hid (show a1 ≠ rb by have := H3.out.lt; omega)
      have HN01 := hid (show a1 ≠ a0 by have := A3.out.lt; omega)
      have HAW := hid (show w.heap.size ≤ a1 by have := A3.out.lt; have := HA0.out; omega)
      simp only [ivC, kN] at hw5
      rw [← ha1, ← hg, ← hw5]
      clear hw5 hg ha1 hb5 H3 A3 K3 HX3 HZ3
      obtain ⟨R, hRR⟩ : ∃ R, R = allP s 59 OV x q0 := ⟨_, rfl⟩
      rw [← hRR] at HX
      have HRR := hid (show loopP s 59 OV (s.size + 1 - q0) [x] q0 = R from hRR.symm)
      clear hRR
      go_cut [] (fun wx => ∃ (ks : List Itm) (A : Option Addr) (m c q : Nat), Hid (R = .ok ks q) ∧ Hid (q ≤ s.size) ∧ Hid (Rdr wx rb s q) ∧ Hid (Ks 1 W1.heap.size [a1] wx A m c ks) ∧ Hid (ItB wx a0 iv0) ∧ Hid (ItB wx a1 ⟨kN 7, ⟨#[]⟩, 0, A, m, c⟩) ∧ Hid (Kp rb w wx))
      case first =>
        go_wp2_with fail
        go_loopw [] (fun wr => ∃ (ks : List Itm) (A : Option Addr) (m c q f : Nat), (q ≤ s.size ∧ s.size < f + q ∧ m ≤ q + 1) ∧ Hid (loopP s 59 OV f ks q = R) ∧ Hid (Rdr wr rb s q) ∧ Hid (Ks 1 W1.heap.size [a1] wr A m c ks) ∧ Hid (ItB wr a0 iv0) ∧ Hid (ItB wr a1 ⟨kN 7, ⟨#[]⟩, 0, A, m, c⟩) ∧ Hid (Kp rb w wr)) (fun wr => s.size - (intOf ((wr.cell? ⟨rb, 2, none⟩).getD undef)).toNat)
        case atStart => exact ⟨[x], some ⟨g, 0, none⟩, 1, 1, q0, s.size + 1 - q0, ⟨HQS.out, by have := HQS.out; omega, by omega⟩, HRR, H5, HKS, A5, B5, K5⟩
        case round =>
          obtain ⟨ks, A, m, c, q, f, ⟨hq1, hq2, hq3⟩, hL, hR, hS, hA, hB, hK⟩ := hrel
          have HQ := hid (And.intro hq1 (And.intro hq2 hq3))
          have hI := HIS.out q wr hR.out hq1
          have HS' := hid hS.out; have HL := hid hL.out; have HRw := hid hR.out; have HAw := hid hA.out; have HBw := hid hB.out; have HKw := hid hK.out
          clear hq1 hq2 hq3 hL hR hS hA hB hK HRR H5 HKS A5 B5 K5
          by_cases hsp : byt s q = 59
          · rw [show decide (byt s q = 59) = true from decide_eq_true hsp, show isQ s 59 q = q + 1 from if_pos hsp] at hI
            have hqs : q < s.size := byt_in hsp (by decide)
            have HQ1 := hid hqs
            have HV := hid fun (W : World) (h : Rdr W rb s (q + 1)) => HOV2.out (q + 1) W h hqs
            have hfy := HOF2.out (q + 1)
            have HSP := hid hsp
            have hm : m ≤ 10000000000 := by have := HQ.out; have := HS.out; omega
            clear hqs hsp
            go_upto_region 5 with (first | (go_at_call 99; refine hI.mono ?_; rintro e w7 ⟨rfl, h7, k7⟩; have H7 := hid h7; have K7 := hid (HKw.out.trans k7); have A7 := hid (HAw.out.kp k7 HNE0.out); have B7 := hid (HBw.out.kp k7 HNE1.out); have S7 := hid (HS'.out.kp k7 HR1.out); clear h7 k7 hI))
            refine region_call [0, 1, 2] [3, 4, 5] [6, 7] (fun W => ItB W a1 ⟨kN 7, ⟨#[]⟩, 0, A, m, c⟩) (by kernel_rfl) (by kernel_rfl) (fun d _ _ _ _ h => by cases d <;> exact h) B7.out ?_
            apply Exists.intro
            simp only [List.map_cons, List.map_nil, List.getD_cons_zero, List.getD_cons_succ]
            refine ⟨⟨_, Or.inl ⟨by rfl, fun W hW => by go_simp; rfl⟩, .slice A m c, Or.inl ⟨by rfl, fun W hW => by have k10 := (ItB.cells hW).k10; simp only [Act.put, List.setIfInBounds_toArray, List.set_cons_zero, List.set_cons_succ]; go_simp⟩, _, Or.inl ⟨by rfl, fun W hW => by go_simp; rfl⟩, rfl⟩, ?_⟩
            simp only [Act.put, List.setIfInBounds_toArray, List.set_cons_zero, List.set_cons_succ]
            have hR7 : Rdr w7.drew rb s (q + 1) := H7.out
            have hA7 : ItB w7.drew a0 iv0 := A7.out
            have hB7 : ItB w7.drew a1 ⟨kN 7, ⟨#[]⟩, 0, A, m, c⟩ := B7.out
            have hK7 : Kp rb w w7.drew := K7.out.drew
            have hS7 : Ks 1 W1.heap.size [a1] w7.drew A m c ks := S7.out.kp ((Kp.refl rb w7).drew) HR1.out
            obtain ⟨w8, hw8⟩ : ∃ W, W = w7.drew := ⟨_, rfl⟩
            rw [← hw8] at hR7 hA7 hB7 hK7 hS7
            rw [← hw8]
            have HR8 := hid hR7; have HA8 := hid hA7; have HB8 := hid hB7; have HK8 := hid hK7; have HS8 := hid hS7
            have hw7 : W1.heap.size ≤ w8.heap.size := by have := HA8.out.lt; have := HWE.out; omega
            clear hw8 hR7 hA7 hB7 hK7 hS7 H7 A7 B7 K7 S7 HIS
            cases hd : OV (q + 1) with
            | bad e0 =>
              rw [hd] at HV
              have HX3 := hid (show rP = .bad e0 from by
                rw [HX.out, ← HL.out, loop_bad HSP.out hd (by have := HQ.out; omega)]
                rfl)
              clear hd hfy
              refine wpMid_step rfl (fun K hK => ?_)
              go_simp
              go_wp2_with (first | (go_at_call 102; refine (HV.out _ HR8.out).mono ?_; rintro e w9 ⟨⟨rfl, h9⟩, k9⟩; unfold wrongP; have H9 := hid h9; have K9 := hid (HK8.out.trans k9); clear h9 k9))
              exact ⟨rfl, ItP.bad HX3.out rfl H9.out K9.out⟩
            | ok y q2 =>
              rw [hd] at HV hfy
              have HFY := hid hfy
              have HL2 := hid (show loopP s 59 OV (f - 1) (ks ++ [y]) q2 = R from by
                rw [← HL.out, loop_step HSP.out hd (by have := HQ.out; omega)])
              clear hd hfy
              refine wpMid_step rfl (fun K hK => ?_)
              go_simp
              go_wp2_with (first | (go_at_call 102; refine (HV.out _ HR8.out).mono ?_; rintro e w9 ⟨⟨u2, rfl, hy, h9⟩, k9⟩; have H9 := hid h9; have K9 := hid (HK8.out.trans k9); have A9 := hid (HA8.out.kp k9 HNE0.out); have B9 := hid (HB8.out.kp k9 HNE1.out); have hz9 := k9.size; obtain ⟨xs, hown, hst⟩ := HS8.out.grow (HS8.out.kp k9 HR1.out) k9.size hw7 (by intro b hb; simp only [List.mem_singleton] at hb; subst hb; exact HB8.out.lt) hy; have HOWN := hid hown; have HST := hid hst; clear h9 k9 hy hown hst))
              refine hK.out _ _ B9.out ?_
              clear hK K
              simp only [ivA]
              refine wpMid_step rfl (fun K hK => ?_)
              go_simp
              refine hK.out _ _ (B9.out.alloc _) ?_
              clear hK K
              refine wpMid_step rfl (fun K hK => ?_)
              refine op_elemF (.tmp 17) (.tmp 20) Tryz.underItems Tryz.infoItem rfl (by decide) (by decide) rfl W1.heap.size _ m xs rfl (HOWN.out _) ⟨w9.heap.size, 0, none⟩ (ivC u2) rfl rfl (fun j u h => cell_news_at w9 (ivC u2) _ rfl j u h) (by simp [ivC, Value.oneCell']) hm (by simp; omega) ?_
              intro v5 w5 ho5 hg5 hf5
              obtain ⟨A5, c5, rfl⟩ := own_slice ho5
              obtain ⟨n1, n2, n3⟩ := HST.out _ _ _ ho5 hg5 hf5
              have N1 := hid n1
              have N2 := hid (show Rdr w5 rb s q2 from (n2 rb (.inl HR1.out)).trans H9.out)
              have N3 := hid (show ItB w5 a0 iv0 from (n2 a0 (.inl HA1.out)).trans A9.out)
              have N4 := hid (n3 rb w K9.out HWZ.out)
              have N5 := hid (show ItB w5 a1 ⟨kN 7, ⟨#[]⟩, 0, A, m, c⟩ from (n2 a1 (.inr (by simp))).trans B9.out)
              clear n1 n2 n3 ho5 hg5 hf5
              refine hK.out _ _ N5.out ?_
              clear hK K
              have k10 := N5.out.cells.k10; have z10 := N5.out.cells.z10
              simp only [] at k10
              simp only [wpMid, Act.put, List.setIfInBounds_toArray, List.set_cons_zero, List.set_cons_succ]
              go_wp2_with fail
              go_roundw
              case rel => exact ⟨ks ++ [y], A5, m + 1, c5, q2, f - 1, ⟨HFY.out.2, by have := HQ.out; have := HFY.out.1; omega, by have := HQ.out; have := HFY.out.1; omega⟩, HL2, hid (N2.out.far HNE1.out), hid (N1.out.grown ((Kp.refl a1 w5).set _) fun r e => by injection e with e; subst e; exact .inr (.inl (by simp))), hid (N3.out.far HN01.out), hid N5.out.set_kids, hid (N4.out.setNew HAW.out _)⟩
              case measure =>
                rw [HRw.out.cells.c2, (N2.out.far (k := 10) (v := .slice A5 (m + 1) c5) HNE1.out).cells.c2]
                simp only [Option.getD_some, intOf]
                have := HQ1.out; have := HFY.out.1
                omega
          · rw [show decide (byt s q = 59) = false from decide_eq_false hsp, show isQ s 59 q = q from if_neg hsp] at hI
            have HX3 := hid (show R = .ok ks q from by
              rw [← HL.out, loop_end hsp (by have := HQ.out; omega)])
            have HQ1 := hid HQ.out.1
            clear hsp
            go_wp2_with (first | (go_at_call 99; refine hI.mono ?_; rintro e w7 ⟨rfl, h7, k7⟩; have H7 := hid h7; have K7 := hid (HKw.out.trans k7); have A7 := hid (HAw.out.kp k7 HNE0.out); have B7 := hid (HBw.out.kp k7 HNE1.out); have S7 := hid (HS'.out.kp k7 HR1.out); clear h7 k7 hI))
            go_meet
            exact ⟨ks, A, m, c, q, HX3, HQ1, H7, S7, A7, B7, K7⟩
      obtain ⟨ks, A, m, c, q, hr, hqs, hR, hS, hA, hB, hK⟩ := hcut
      obtain ⟨w6, hw6⟩ : ∃ W, W = wc := ⟨_, rfl⟩
      rw [← hw6] at hR hS hA hB hK
      rw [← hw6]
      clear hw6 H5 A5 B5 K5 HKS HRR
      have HX2 := hid (show rP = if byt s q = 93 then .ok (kI 7 ks) (q + 1) else .bad q from by rw [HX.out, hr.out]; rfl)
      have hmu := HMU.out q w6 hR.out hqs.out
      by_cases hsh : byt s q = 93
      rotate_left
      · simp only [if_neg hsh] at hmu
        have HX3 := hid (show rP = .bad q by rw [HX2.out, if_neg hsh])
        clear hsh
        go_wp2_with (first | (go_at_call 101; refine hmu.mono ?_; rintro e w7 ⟨⟨rfl, h7⟩, k7⟩; unfold wrongP; have H7 := hid h7; have K7 := hid (hK.out.trans k7); clear h7 k7 hmu))
        exact ⟨rfl, ItP.bad HX3.out rfl H7.out K7.out⟩
      · simp only [if_pos hsh] at hmu
        have HX3 := hid (show rP = .ok (kI 7 ks) (q + 1) by rw [HX2.out, if_pos hsh])
        obtain ⟨u6, hu6⟩ : ∃ u : Iv, u = ⟨kN 7, ⟨#[]⟩, 0, A, m, c⟩ := ⟨_, rfl⟩
        have HN := hid (show ItX 1 W1.heap.size [] w6 u6 (kI 7 ks) from by rw [hu6]; exact (hS.out.node (by decide)).less)
        rw [← hu6] at hB
        clear hsh hu6
        go_wp2_with (first | (go_at_call 101; refine hmu.mono ?_; rintro e w7 ⟨⟨rfl, h7⟩, k7⟩; have H7 := hid h7; have K7 := hid (hK.out.trans k7); have A7 := hid (hA.out.kp k7 HNE0.out); have B7 := hid (hB.out.kp k7 HNE1.out); have N7 := hid (HN.out.kp k7 HR1.out); clear h7 k7 hmu) | (refine wp_load_it rfl (.tmp 3) rfl a1 0 u6 rfl B7.out.range ?_) | (refine wp_store_it rfl (.tmp 2) (.tmp 25) rfl a0 iv0 u6 rfl rfl A7.out ?_; intro wz hz gz))
        have hc := hz.cells
        have k0 := hc.k0; have k1 := hc.k1; have k2 := hc.k2; have k3 := hc.k3; have k4 := hc.k4; have k5 := hc.k5; have k6 := hc.k6; have k7 := hc.k7; have k8 := hc.k8; have k9 := hc.k9; have k10 := hc.k10
        refine bodyPost_ret (v := ivA u6) (by simp [results, Tryz.results100, go_sem, k0, k1, k2, k3, k4, k5, k6, k7, k8, k9, k10, ivA]) rfl ?_
        exact ItP.ok HX3.out rfl (N7.out.ret gz HA1.out HWZ.out) (kp_rdr H7.out gz HNE0.out) (kp_new K7.out gz HA0.out)
end Go.Proofs.YtimblabaeclhpaaGreat

/- WALK: the reader's group (printed by gen_partr.py). -/
namespace Go.Proofs.YtimblabaeclhpaaGreat
open Go.RowKit
set_option maxRecDepth 100000 in
set_option maxHeartbeats 4000000 in
theorem group_anyR (rb : Nat) (s : ByteArray) (p : Nat) (w : World) (h : Rdr w rb s p) (hp : p ≤ s.size) (hs : s.size ≤ 1000000) :
    Calls Tryz.prog 98 #[.pointer (some ⟨rb, 0, none⟩)] w (ItP s rb w (groupP s p)) := by
  obtain ⟨W1, hW1⟩ : ∃ W1, W1 = w.alloc (.cells #[.int .i64 0, .int .i64 0, .int .i64 0, .int .i64 0, .bool false, .int .i64 0, .int .i64 0, .int .i64 0, .string ⟨#[]⟩, .int .i64 0, .slice none 0 0] 93) := ⟨_, rfl⟩
  have HB := hid (show Below w.heap.size w W1 by rw [hW1]; exact (Below.refl _ _).alloc (Nat.le_refl _) _)
  have HR := hid (h.keep HB.out)
  have H0 := hid (show ItB W1 w.heap.size iv0 by rw [hW1]; exact nwB rfl)
  have HK := hid (show Kp rb w W1 from Kp.of_below HB.out)
  have hlt := h.lt
  have hz : W1.heap.size = w.heap.size + 1 := by rw [hW1]; simp
  have hIS := is_any rb s p 60 W1 HR.out hp hs (by decide)
  have HOV := hid fun (q : Nat) (W : World) (h : Rdr W rb s q) (hq : q ≤ s.size) => part_anyR rb s q W h hq hs
  have HOF := hid fun (q : Nat) => part_fwd s q
  have HIS := hid fun (q : Nat) (W : World) (h : Rdr W rb s q) (hq : q ≤ s.size) => is_any rb s q 45 W h hq hs (by decide)
  have HMU := hid fun (q : Nat) (W : World) (h : Rdr W rb s q) (hq : q ≤ s.size) => must_any rb s q 62 W h hq hs (by decide)
  have HS := hid hs
  have HP := hid hp
  have HW1 := hid hW1
  unfold ItP at HOV
  have hBS : groupP s p = if byt s p = 60 then (match partP s (p + 1) with | .bad e => .bad e | .ok x q => shutP s 5 62 (allP s 45 (partP s) x q)) else partP s p := rfl
  clear h hW1 hs hp
  obtain ⟨rP, hrP⟩ : ∃ r, r = groupP s p := ⟨_, rfl⟩
  rw [← hrP] at hBS ⊢
  obtain ⟨OV, hOV⟩ : ∃ F : Nat → PR Itm, F = partP s := ⟨_, rfl⟩
  have HOF2 := hid fun q => (show (OV q).fwd s q from by rw [hOV]; exact HOF.out q)
  have HOV2 := hid fun (q : Nat) (W : World) (h : Rdr W rb s q) (hq : q ≤ s.size) => (show Calls Tryz.prog 100 #[.pointer (some ⟨rb, 0, none⟩)] W fun e w' => (match OV q with
      | .bad q => e = wrongP q ∧ Rdr w' rb s q
      | .ok x q => ∃ v, e = .returned (ivA v) ∧ ItX 1 W.heap.size [] w' v x ∧ Rdr w' rb s q) ∧ Kp rb W w' from by rw [hOV]; exact HOV.out q W h hq)
  have hBS2 : rP = if byt s p = 60 then (match OV (p + 1) with | .bad e => .bad e | .ok x q => shutP s 5 62 (allP s 45 OV x q)) else OV p := by rw [hOV]; exact hBS
  have HBS := hid hBS2
  clear hrP hBS hBS2 HOV HOF hOV
  go_enter Tryz.func98, Tryz.ntmps98
  go_upto_region 1 with (fail)
  rw [← HW1.out]
  clear HW1
  obtain ⟨a0, ha0⟩ : ∃ a, a = w.heap.size := ⟨_, rfl⟩
  rw [← ha0] at H0 hz hlt
  rw [← ha0]
  have HNE0 := hid (show a0 ≠ rb by omega)
  have HA0 := hid (show w.heap.size ≤ a0 by omega)
  have HA1 := hid (show a0 < W1.heap.size by omega)
  have HR1 := hid (show rb < W1.heap.size by omega)
  have HWZ := hid (show w.heap.size ≤ W1.heap.size by omega)
  have HWE := hid (show W1.heap.size ≤ a0 + 1 by omega)
  clear ha0 hlt hz
  by_cases hop : byt s p = 60
  rotate_left
  · rw [show decide (byt s p = 60) = false from decide_eq_false hop, show isQ s 60 p = p from if_neg hop] at hIS
    have HX := hid (show rP = OV p by rw [HBS.out, if_neg hop])
    have HA := hid fun (W : World) (h : Rdr W rb s p) => HOV2.out p W h HP.out
    clear hop HBS
    cases hd : OV p with
    | bad e0 =>
      rw [hd] at HA HX
      clear hd
      go_wp2_with (first | (go_at_call 99; refine hIS.mono ?_; rintro e w2 ⟨rfl, h2, k2⟩; have H2 := hid h2; have K2 := hid (HK.out.trans k2); clear h2 k2 hIS) | (go_at_call 100; refine (HA.out _ H2.out).mono ?_; rintro e w3 ⟨⟨rfl, h3⟩, k3⟩; unfold wrongP; have H3 := hid h3; have K3 := hid (K2.out.trans k3); clear h3 k3))
      exact ⟨rfl, ItP.bad HX.out rfl H3.out K3.out⟩
    | ok x q =>
      rw [hd] at HA HX
      clear hd
      go_wp2_with (first | (go_at_call 99; refine hIS.mono ?_; rintro e w2 ⟨rfl, h2, k2⟩; have H2 := hid h2; have K2 := hid (HK.out.trans k2); have A2 := hid (H0.out.kp k2 HNE0.out); clear h2 k2 hIS) | (go_at_call 100; refine (HA.out _ H2.out).mono ?_; rintro e w3 ⟨⟨u, rfl, hx, h3⟩, k3⟩; have H3 := hid h3; have K3 := hid (K2.out.trans k3); have HX3 := hid hx; have A3 := hid (A2.out.kp k3 HNE0.out); have HSZ := hid A2.out.lt; clear h3 k3 hx) | (refine wp_store_it rfl (.tmp 2) (.tmp 8) rfl a0 iv0 u rfl rfl A3.out ?_; intro wz hz gz))
      have hc := hz.cells
      have k0 := hc.k0; have k1 := hc.k1; have k2 := hc.k2; have k3 := hc.k3; have k4 := hc.k4; have k5 := hc.k5; have k6 := hc.k6; have k7 := hc.k7; have k8 := hc.k8; have k9 := hc.k9; have k10 := hc.k10
      refine bodyPost_ret (v := ivA u) (by simp [results, Tryz.results98, go_sem, k0, k1, k2, k3, k4, k5, k6, k7, k8, k9, k10, ivA]) rfl ?_
      exact ItP.ok HX.out rfl (HX3.out.ret gz HSZ.out (Nat.le_of_lt (Nat.lt_of_le_of_lt HA0.out HSZ.out))) (kp_rdr H3.out gz HNE0.out) (kp_new K3.out gz HA0.out)
  · have hps : p < s.size := byt_in hop (by decide)
    have HX := hid (show rP = (match OV (p + 1) with | .bad e => .bad e | .ok x q => shutP s 5 62 (allP s 45 OV x q)) by rw [HBS.out, if_pos hop])
    rw [show decide (byt s p = 60) = true from decide_eq_true hop, show isQ s 60 p = p + 1 from if_pos hop] at hIS
    have HA := hid fun (W : World) (h : Rdr W rb s (p + 1)) => HOV2.out (p + 1) W h hps
    have hf := HOF2.out (p + 1)
    clear hop HBS
    cases hd : OV (p + 1) with
    | bad e0 =>
      rw [hd] at HA HX
      clear hd hf
      go_wp2_with (first | (go_at_call 99; refine hIS.mono ?_; rintro e w2 ⟨rfl, h2, k2⟩; have H2 := hid h2; have K2 := hid (HK.out.trans k2); clear h2 k2 hIS) | (go_at_call 100; refine (HA.out _ H2.out).mono ?_; rintro e w3 ⟨⟨rfl, h3⟩, k3⟩; unfold wrongP; have H3 := hid h3; have K3 := hid (K2.out.trans k3); clear h3 k3))
      exact ⟨rfl, ItP.bad HX.out rfl H3.out K3.out⟩
    | ok x q0 =>
      rw [hd] at HA HX hf
      have HQS := hid hf.2
      simp only [] at HX
      clear hd hf
      go_upto_block 0 with (first | (go_at_call 99; refine hIS.mono ?_; rintro e w2 ⟨rfl, h2, k2⟩; have H2 := hid h2; have K2 := hid (HK.out.trans k2); have A2 := hid (H0.out.kp k2 HNE0.out); have HZ2 := hid k2.size; clear h2 k2 hIS) | (go_at_call 100; refine (HA.out _ H2.out).mono ?_; rintro e w3 ⟨⟨u, rfl, hx, h3⟩, k3⟩; have H3 := hid h3; have K3 := hid (K2.out.trans k3); have HX3 := hid (hx.more (n0 := W1.heap.size) HZ2.out (by simp) : ItX 1 W1.heap.size [] w3 u x); have A3 := hid (A2.out.kp k3 HNE0.out); have HZ3 := hid (Nat.le_trans HZ2.out k3.size); simp only [ivA]; clear h3 k3 hx))
      obtain ⟨g, hg⟩ : ∃ g, g = w3.heap.size := ⟨_, rfl⟩
      obtain ⟨a1, ha1⟩ : ∃ a, a = w3.heap.size + 1 := ⟨_, rfl⟩
      obtain ⟨w5, hw5⟩ : ∃ W, W = (w3.alloc (.cells (ivC u).toArray 93)).alloc (.cells (ivC ⟨kN 5, ⟨#[]⟩, 0, some ⟨g, 0, none⟩, 1, 1⟩).toArray 93) := ⟨_, rfl⟩
      have hb5 : Below w3.heap.size w3 w5 := by rw [hw5]; exact ((Below.refl _ _).alloc (Nat.le_refl _) _).alloc (by simp) _
      have HKS := hid (show Ks 1 W1.heap.size [a1] w5 (some ⟨g, 0, none⟩) 1 1 [x] by
        rw [hw5]
        exact (Ks.start HX3.out HZ3.out hg (by simp)).add (by rw [ha1]; simp) _)
      have H5 := hid (H3.out.keep hb5)
      have A5 := hid (A3.out.below hb5)
      have B5 := hid (show ItB w5 a1 ⟨kN 5, ⟨#[]⟩, 0, some ⟨g, 0, none⟩, 1, 1⟩ by rw [hw5]; exact nwB (by rw [ha1]; simp))
      have K5 := hid (K3.out.trans (Kp.of_below hb5))
      have HNE1 := hid (show a1 ≠ rb by have := H3.out.lt; omega)
      have HN01 := hid (show a1 ≠ a0 by have := A3.out.lt; omega)
      have HAW := hid (show w.heap.size ≤ a1 by have := A3.out.lt; have := HA0.out; omega)
      simp only [ivC, kN] at hw5
      rw [← ha1, ← hg, ← hw5]
      clear hw5 hg ha1 hb5 H3 A3 K3 HX3 HZ3
      obtain ⟨R, hRR⟩ : ∃ R, R = allP s 45 OV x q0 := ⟨_, rfl⟩
      rw [← hRR] at HX
      have HRR := hid (show loopP s 45 OV (s.size + 1 - q0) [x] q0 = R from hRR.symm)
      clear hRR
      go_cut [] (fun wx => ∃ (ks : List Itm) (A : Option Addr) (m c q : Nat), Hid (R = .ok ks q) ∧ Hid (q ≤ s.size) ∧ Hid (Rdr wx rb s q) ∧ Hid (Ks 1 W1.heap.size [a1] wx A m c ks) ∧ Hid (ItB wx a0 iv0) ∧ Hid (ItB wx a1 ⟨kN 5, ⟨#[]⟩, 0, A, m, c⟩) ∧ Hid (Kp rb w wx))
      case first =>
        go_wp2_with fail
        go_loopw [] (fun wr => ∃ (ks : List Itm) (A : Option Addr) (m c q f : Nat), (q ≤ s.size ∧ s.size < f + q ∧ m ≤ q + 1) ∧ Hid (loopP s 45 OV f ks q = R) ∧ Hid (Rdr wr rb s q) ∧ Hid (Ks 1 W1.heap.size [a1] wr A m c ks) ∧ Hid (ItB wr a0 iv0) ∧ Hid (ItB wr a1 ⟨kN 5, ⟨#[]⟩, 0, A, m, c⟩) ∧ Hid (Kp rb w wr)) (fun wr => s.size - (intOf ((wr.cell? ⟨rb, 2, none⟩).getD undef)).toNat)
        case atStart => exact ⟨[x], some ⟨g, 0, none⟩, 1, 1, q0, s.size + 1 - q0, ⟨HQS.out, by have := HQS.out; omega, by omega⟩, HRR, H5, HKS, A5, B5, K5⟩
        case round =>
          obtain ⟨ks, A, m, c, q, f, ⟨hq1, hq2, hq3⟩, hL, hR, hS, hA, hB, hK⟩ := hrel
          have HQ := hid (And.intro hq1 (And.intro hq2 hq3))
          have hI := HIS.out q wr hR.out hq1
          have HS' := hid hS.out; have HL := hid hL.out; have HRw := hid hR.out; have HAw := hid hA.out; have HBw := hid hB.out; have HKw := hid hK.out
          clear hq1 hq2 hq3 hL hR hS hA hB hK HRR H5 HKS A5 B5 K5
          by_cases hsp : byt s q = 45
          · rw [show decide (byt s q = 45) = true from decide_eq_true hsp, show isQ s 45 q = q + 1 from if_pos hsp] at hI
            have hqs : q < s.size := byt_in hsp (by decide)
            have HQ1 := hid hqs
            have HV := hid fun (W : World) (h : Rdr W rb s (q + 1)) => HOV2.out (q + 1) W h hqs
            have hfy := HOF2.out (q + 1)
            have HSP := hid hsp
            have hm : m ≤ 10000000000 := by have := HQ.out; have := HS.out; omega
            clear hqs hsp
            go_upto_region 5 with (first | (go_at_call 99; refine hI.mono ?_; rintro e w7 ⟨rfl, h7, k7⟩; have H7 := hid h7; have K7 := hid (HKw.out.trans k7); have A7 := hid (HAw.out.kp k7 HNE0.out); have B7 := hid (HBw.out.kp k7 HNE1.out); have S7 := hid (HS'.out.kp k7 HR1.out); clear h7 k7 hI))
            refine region_call [0, 1, 2] [3, 4, 5] [6, 7] (fun W => ItB W a1 ⟨kN 5, ⟨#[]⟩, 0, A, m, c⟩) (by kernel_rfl) (by kernel_rfl) (fun d _ _ _ _ h => by cases d <;> exact h) B7.out ?_
            apply Exists.intro
            simp only [List.map_cons, List.map_nil, List.getD_cons_zero, List.getD_cons_succ]
            refine ⟨⟨_, Or.inl ⟨by rfl, fun W hW => by go_simp; rfl⟩, .slice A m c, Or.inl ⟨by rfl, fun W hW => by have k10 := (ItB.cells hW).k10; simp only [Act.put, List.setIfInBounds_toArray, List.set_cons_zero, List.set_cons_succ]; go_simp⟩, _, Or.inl ⟨by rfl, fun W hW => by go_simp; rfl⟩, rfl⟩, ?_⟩
            simp only [Act.put, List.setIfInBounds_toArray, List.set_cons_zero, List.set_cons_succ]
            have hR7 : Rdr w7.drew rb s (q + 1) := H7.out
            have hA7 : ItB w7.drew a0 iv0 := A7.out
            have hB7 : ItB w7.drew a1 ⟨kN 5, ⟨#[]⟩, 0, A, m, c⟩ := B7.out
            have hK7 : Kp rb w w7.drew := K7.out.drew
            have hS7 : Ks 1 W1.heap.size [a1] w7.drew A m c ks := S7.out.kp ((Kp.refl rb w7).drew) HR1.out
            obtain ⟨w8, hw8⟩ : ∃ W, W = w7.drew := ⟨_, rfl⟩
            rw [← hw8] at hR7 hA7 hB7 hK7 hS7
            rw [← hw8]
            have HR8 := hid hR7; have HA8 := hid hA7; have HB8 := hid hB7; have HK8 := hid hK7; have HS8 := hid hS7
            have hw7 : W1.heap.size ≤ w8.heap.size := by have := HA8.out.lt; have := HWE.out; omega
            clear hw8 hR7 hA7 hB7 hK7 hS7 H7 A7 B7 K7 S7 HIS
            cases hd : OV (q + 1) with
            | bad e0 =>
              rw [hd] at HV
              have HX3 := hid (show rP = .bad e0 from by
                rw [HX.out, ← HL.out, loop_bad HSP.out hd (by have := HQ.out; omega)]
                rfl)
              clear hd hfy
              refine wpMid_step rfl (fun K hK => ?_)
              go_simp
              go_wp2_with (first | (go_at_call 100; refine (HV.out _ HR8.out).mono ?_; rintro e w9 ⟨⟨rfl, h9⟩, k9⟩; unfold wrongP; have H9 := hid h9; have K9 := hid (HK8.out.trans k9); clear h9 k9))
              exact ⟨rfl, ItP.bad HX3.out rfl H9.out K9.out⟩
            | ok y q2 =>
              rw [hd] at HV hfy
              have HFY := hid hfy
              have HL2 := hid (show loopP s 45 OV (f - 1) (ks ++ [y]) q2 = R from by
                rw [← HL.out, loop_step HSP.out hd (by have := HQ.out; omega)])
              clear hd hfy
              refine wpMid_step rfl (fun K hK => ?_)
              go_simp
              go_wp2_with (first | (go_at_call 100; refine (HV.out _ HR8.out).mono ?_; rintro e w9 ⟨⟨u2, rfl, hy, h9⟩, k9⟩; have H9 := hid h9; have K9 := hid (HK8.out.trans k9); have A9 := hid (HA8.out.kp k9 HNE0.out); have B9 := hid (HB8.out.kp k9 HNE1.out); have hz9 := k9.size; obtain ⟨xs, hown, hst⟩ := HS8.out.grow (HS8.out.kp k9 HR1.out) k9.size hw7 (by intro b hb; simp only [List.mem_singleton] at hb; subst hb; exact HB8.out.lt) hy; have HOWN := hid hown; have HST := hid hst; clear h9 k9 hy hown hst))
              refine hK.out _ _ B9.out ?_
              clear hK K
              simp only [ivA]
              refine wpMid_step rfl (fun K hK => ?_)
              go_simp
              refine hK.out _ _ (B9.out.alloc _) ?_
              clear hK K
              refine wpMid_step rfl (fun K hK => ?_)
              refine op_elemF (.tmp 17) (.tmp 20) Tryz.underItems Tryz.infoItem rfl (by decide) (by decide) rfl W1.heap.size _ m xs rfl (HOWN.out _) ⟨w9.heap.size, 0, none⟩ (ivC u2) rfl rfl (fun j u h => cell_news_at w9 (ivC u2) _ rfl j u h) (by simp [ivC, Value.oneCell']) hm (by simp; omega) ?_
              intro v5 w5 ho5 hg5 hf5
              obtain ⟨A5, c5, rfl⟩ := own_slice ho5
              obtain ⟨n1, n2, n3⟩ := HST.out _ _ _ ho5 hg5 hf5
              have N1 := hid n1
              have N2 := hid (show Rdr w5 rb s q2 from (n2 rb (.inl HR1.out)).trans H9.out)
              have N3 := hid (show ItB w5 a0 iv0 from (n2 a0 (.inl HA1.out)).trans A9.out)
              have N4 := hid (n3 rb w K9.out HWZ.out)
              have N5 := hid (show ItB w5 a1 ⟨kN 5, ⟨#[]⟩, 0, A, m, c⟩ from (n2 a1 (.inr (by simp))).trans B9.out)
              clear n1 n2 n3 ho5 hg5 hf5
              refine hK.out _ _ N5.out ?_
              clear hK K
              have k10 := N5.out.cells.k10; have z10 := N5.out.cells.z10
              simp only [] at k10
              simp only [wpMid, Act.put, List.setIfInBounds_toArray, List.set_cons_zero, List.set_cons_succ]
              go_wp2_with fail
              go_roundw
              case rel => exact ⟨ks ++ [y], A5, m + 1, c5, q2, f - 1, ⟨HFY.out.2, by have := HQ.out; have := HFY.out.1; omega, by have := HQ.out; have := HFY.out.1; omega⟩, HL2, hid (N2.out.far HNE1.out), hid (N1.out.grown ((Kp.refl a1 w5).set _) fun r e => by injection e with e; subst e; exact .inr (.inl (by simp))), hid (N3.out.far HN01.out), hid N5.out.set_kids, hid (N4.out.setNew HAW.out _)⟩
              case measure =>
                rw [HRw.out.cells.c2, (N2.out.far (k := 10) (v := .slice A5 (m + 1) c5) HNE1.out).cells.c2]
                simp only [Option.getD_some, intOf]
                have := HQ1.out; have := HFY.out.1
                omega
          · rw [show decide (byt s q = 45) = false from decide_eq_false hsp, show isQ s 45 q = q from if_neg hsp] at hI
            have HX3 := hid (show R = .ok ks q from by
              rw [← HL.out, loop_end hsp (by have := HQ.out; omega)])
            have HQ1 := hid HQ.out.1
            clear hsp
            go_wp2_with (first | (go_at_call 99; refine hI.mono ?_; rintro e w7 ⟨rfl, h7, k7⟩; have H7 := hid h7; have K7 := hid (HKw.out.trans k7); have A7 := hid (HAw.out.kp k7 HNE0.out); have B7 := hid (HBw.out.kp k7 HNE1.out); have S7 := hid (HS'.out.kp k7 HR1.out); clear h7 k7 hI))
            go_meet
            exact ⟨ks, A, m, c, q, HX3, HQ1, H7, S7, A7, B7, K7⟩
      obtain ⟨ks, A, m, c, q, hr, hqs, hR, hS, hA, hB, hK⟩ := hcut
      obtain ⟨w6, hw6⟩ : ∃ W, W = wc := ⟨_, rfl⟩
      rw [← hw6] at hR hS hA hB hK
      rw [← hw6]
      clear hw6 H5 A5 B5 K5 HKS HRR
      have HX2 := hid (show rP = if byt s q = 62 then .ok (kI 5 ks) (q + 1) else .bad q from by rw [HX.out, hr.out]; rfl)
      have hmu := HMU.out q w6 hR.out hqs.out
      by_cases hsh : byt s q = 62
      rotate_left
      · simp only [if_neg hsh] at hmu
        have HX3 := hid (show rP = .bad q by rw [HX2.out, if_neg hsh])
        clear hsh
        go_wp2_with (first | (go_at_call 101; refine hmu.mono ?_; rintro e w7 ⟨⟨rfl, h7⟩, k7⟩; unfold wrongP; have H7 := hid h7; have K7 := hid (hK.out.trans k7); clear h7 k7 hmu))
        exact ⟨rfl, ItP.bad HX3.out rfl H7.out K7.out⟩
      · simp only [if_pos hsh] at hmu
        have HX3 := hid (show rP = .ok (kI 5 ks) (q + 1) by rw [HX2.out, if_pos hsh])
        obtain ⟨u6, hu6⟩ : ∃ u : Iv, u = ⟨kN 5, ⟨#[]⟩, 0, A, m, c⟩ := ⟨_, rfl⟩
        have HN := hid (show ItX 1 W1.heap.size [] w6 u6 (kI 5 ks) from by rw [hu6]; exact (hS.out.node (by decide)).less)
        rw [← hu6] at hB
        clear hsh hu6
        go_wp2_with (first | (go_at_call 101; refine hmu.mono ?_; rintro e w7 ⟨⟨rfl, h7⟩, k7⟩; have H7 := hid h7; have K7 := hid (hK.out.trans k7); have A7 := hid (hA.out.kp k7 HNE0.out); have B7 := hid (hB.out.kp k7 HNE1.out); have N7 := hid (HN.out.kp k7 HR1.out); clear h7 k7 hmu) | (refine wp_load_it rfl (.tmp 3) rfl a1 0 u6 rfl B7.out.range ?_) | (refine wp_store_it rfl (.tmp 2) (.tmp 25) rfl a0 iv0 u6 rfl rfl A7.out ?_; intro wz hz gz))
        have hc := hz.cells
        have k0 := hc.k0; have k1 := hc.k1; have k2 := hc.k2; have k3 := hc.k3; have k4 := hc.k4; have k5 := hc.k5; have k6 := hc.k6; have k7 := hc.k7; have k8 := hc.k8; have k9 := hc.k9; have k10 := hc.k10
        refine bodyPost_ret (v := ivA u6) (by simp [results, Tryz.results98, go_sem, k0, k1, k2, k3, k4, k5, k6, k7, k8, k9, k10, ivA]) rfl ?_
        exact ItP.ok HX3.out rfl (N7.out.ret gz HA1.out HWZ.out) (kp_rdr H7.out gz HNE0.out) (kp_new K7.out gz HA0.out)
end Go.Proofs.YtimblabaeclhpaaGreat

/- WALK: lineCode.read. -/
namespace Go.Proofs.YtimblabaeclhpaaGreat
open Go.RowKit
/-- What a reading of items does. -/
def RdP (s : ByteArray) (rb : Nat) (w : World) (r : PR (List Itm)) (e : Ending) (w' : World) : Prop := (match r with
  | .bad q => e = wrongP q ∧ Rdr w' rb s q
  | .ok ks q => ∃ A m c, e = .returned (.slice A m c) ∧ Ks 1 w.heap.size [] w' A m c ks ∧ Rdr w' rb s q) ∧ Kp rb w w'
theorem RdP.bad {s : ByteArray} {rb q : Nat} {w w' : World} {r : PR (List Itm)} {e : Ending} (hr : r = .bad q) (he : e = wrongP q) (h : Rdr w' rb s q) (hk : Kp rb w w') : RdP s rb w r e w' := by
  subst hr; exact ⟨⟨he, h⟩, hk⟩
theorem RdP.ok {s : ByteArray} {rb q : Nat} {w w' : World} {r : PR (List Itm)} {ks : List Itm} {A : Option Addr} {m c : Nat} {e : Ending} (hr : r = .ok ks q) (he : e = .returned (.slice A m c)) (hx : Ks 1 w.heap.size [] w' A m c ks) (h : Rdr w' rb s q) (hk : Kp rb w w') : RdP s rb w r e w' := by
  subst hr; exact ⟨⟨A, m, c, he, hx, h⟩, hk⟩
theorem Ks.base {N : Int} {n0 n1 : Nat} {Lx : List Nat} {W : World} {A : Option Addr} {m c : Nat} {ks : List Itm} (h : Ks N n1 Lx W A m c ks) (hn : n0 ≤ n1) : Ks N n0 Lx W A m c ks := by
  obtain ⟨vs, h1, h2, h3, h4, h5⟩ := h
  exact ⟨vs, h1, h2, own_base h3 hn, h4, ItL.keep (Int.le_refl _) (fun b hb => ⟨Nat.le_trans hn hb.1, hb.2⟩) (fun _ _ => rfl) h5⟩
set_option maxRecDepth 100000 in
set_option maxHeartbeats 4000000 in
theorem read_anyR (rb : Nat) (s : ByteArray) (p : Nat) (w : World) (h : Rdr w rb s p) (hp : p ≤ s.size) (hs : s.size ≤ 1000000) :
    Calls Tryz.prog 96 #[.agg #[], .pointer (some ⟨rb, 0, none⟩)] w (RdP s rb w (readP s p)) := by
  obtain ⟨W1, hW1⟩ : ∃ W1, W1 = w.alloc (.cells #[] 78) := ⟨_, rfl⟩
  have HB := hid (show Below w.heap.size w W1 by rw [hW1]; exact (Below.refl _ _).alloc (Nat.le_refl _) _)
  have HR := hid (h.keep HB.out)
  have HK := hid (show Kp rb w W1 from Kp.of_below HB.out)
  have hlt := h.lt
  have hz : W1.heap.size = w.heap.size + 1 := by rw [hW1]; simp
  have HOV := hid fun (q : Nat) (W : World) (h : Rdr W rb s q) (hq : q ≤ s.size) => group_anyR rb s q W h hq hs
  have HOF := hid fun (q : Nat) => group_fwd s q
  have HIS := hid fun (q : Nat) (W : World) (h : Rdr W rb s q) (hq : q ≤ s.size) => is_any rb s q 45 W h hq hs (by decide)
  have HS := hid hs
  have HW1 := hid hW1
  unfold ItP at HOV
  have hBS : readP s p = match groupP s p with | .bad e => .bad e | .ok x q => allP s 45 (groupP s) x q := rfl
  have hov1 := HOV.out p W1 HR.out hp
  have hf1 := HOF.out p
  clear h hW1 hs hp
  obtain ⟨rP, hrP⟩ : ∃ r, r = readP s p := ⟨_, rfl⟩
  rw [← hrP] at hBS ⊢
  generalize groupP s = OV at *
  have HBS := hid hBS
  have HR1 := hid (show rb < W1.heap.size by omega)
  have HWZ := hid (show w.heap.size ≤ W1.heap.size by omega)
  clear hrP hBS hlt hz
  go_enter Tryz.func96, Tryz.ntmps96
  go_upto_region 1 with (fail)
  rw [← HW1.out]
  clear HW1
  cases hd : OV p with
  | bad e0 =>
    rw [hd] at hov1
    have HX := hid (show rP = .bad e0 by rw [HBS.out, hd])
    clear hd hf1
    go_wp2_with (first | (go_at_call 98; refine hov1.mono ?_; rintro e w3 ⟨⟨rfl, h3⟩, k3⟩; unfold wrongP; have H3 := hid h3; have K3 := hid (HK.out.trans k3); clear h3 k3))
    exact ⟨rfl, RdP.bad HX.out rfl H3.out K3.out⟩
  | ok x q0 =>
    rw [hd] at hov1 hf1
    have HX := hid (show rP = allP s 45 OV x q0 by rw [HBS.out, hd])
    have HQS := hid hf1.2
    simp only [] at hov1
    clear hd hf1 HBS
    go_upto_block 0 with (first | (go_at_call 98; refine hov1.mono ?_; rintro e w3 ⟨⟨u, rfl, hx, h3⟩, k3⟩; have H3 := hid h3; have K3 := hid (HK.out.trans k3); have HX3 := hid hx; have HZ3 := hid k3.size; simp only [ivA]; clear h3 k3 hx hov1))
    obtain ⟨w5, hw5⟩ : ∃ W, W = w3.alloc (.cells (ivC u).toArray 93) := ⟨_, rfl⟩
    obtain ⟨g, hg⟩ : ∃ g, g = w3.heap.size := ⟨_, rfl⟩
    have hb5 : Below w3.heap.size w3 w5 := by rw [hw5]; exact (Below.refl _ _).alloc (Nat.le_refl _) _
    have HKS := hid (show Ks 1 W1.heap.size [] w5 (some ⟨g, 0, none⟩) 1 1 [x] by
      rw [hw5]
      exact Ks.start HX3.out HZ3.out hg (by simp))
    have H5 := hid (H3.out.keep hb5)
    have K5 := hid (K3.out.trans (Kp.of_below hb5))
    have Z5 := hid (Nat.le_trans HZ3.out hb5.size)
    simp only [ivC] at hw5
    rw [← hg, ← hw5]
    clear hw5 hg hb5 H3 K3 HX3 HZ3
    have HRR := hid (show loopP s 45 OV (s.size + 1 - q0) [x] q0 = rP from HX.out.symm)
    clear HX
    go_wp2_with fail
    go_loopw [5] (fun kv wr => ∃ (ks : List Itm) (A : Option Addr) (m c q f : Nat), (q ≤ s.size ∧ s.size < f + q ∧ m ≤ q + 1) ∧ kv = .slice A m c ∧ Hid (loopP s 45 OV f ks q = rP) ∧ Hid (Rdr wr rb s q) ∧ Hid (Ks 1 W1.heap.size [] wr A m c ks) ∧ Hid (Kp rb w wr) ∧ Hid (W1.heap.size ≤ wr.heap.size)) (fun _ wr => s.size - (intOf ((wr.cell? ⟨rb, 2, none⟩).getD undef)).toNat)
    case atStart => exact ⟨[x], some ⟨g, 0, none⟩, 1, 1, q0, s.size + 1 - q0, ⟨HQS.out, by have := HQS.out; omega, by omega⟩, rfl, HRR, H5, HKS, K5, Z5⟩
    case round =>
      obtain ⟨ks, A, m, c, q, f, ⟨hq1, hq2, hq3⟩, rfl, hL, hR, hS, hK, hZ⟩ := hrel
      have HQ := hid (And.intro hq1 (And.intro hq2 hq3))
      have hI := HIS.out q wr hR.out hq1
      have HS' := hid hS.out; have HL := hid hL.out; have HRw := hid hR.out; have HKw := hid hK.out; have HZw := hid hZ.out
      clear hq1 hq2 hq3 hL hR hS hK hZ HRR H5 HKS K5 Z5
      by_cases h45 : byt s q = 45
      · rw [show decide (byt s q = 45) = true from decide_eq_true h45, show isQ s 45 q = q + 1 from if_pos h45] at hI
        have hqs : q < s.size := byt_in h45 (by decide)
        have HQ1 := hid hqs
        have HV := hid fun (W : World) (h : Rdr W rb s (q + 1)) => HOV.out (q + 1) W h hqs
        have hfy := HOF.out (q + 1)
        have H45 := hid h45
        clear hqs h45
        cases hd : OV (q + 1) with
        | bad e0 =>
          rw [hd] at HV
          have HX3 := hid (show rP = .bad e0 from by
            rw [← HL.out, loop_bad H45.out hd (by have := HQ.out; omega)])
          clear hd hfy
          go_wp2_with (first | (go_at_call 99; refine hI.mono ?_; rintro e w7 ⟨rfl, h7, k7⟩; have H7 := hid h7; have K7 := hid (HKw.out.trans k7); clear h7 k7 hI) | (go_at_call 98; refine (HV.out _ H7.out).mono ?_; rintro e w8 ⟨⟨rfl, h8⟩, k8⟩; unfold wrongP; have H8 := hid h8; have K8 := hid (K7.out.trans k8); clear h8 k8))
          exact ⟨rfl, RdP.bad HX3.out rfl H8.out K8.out⟩
        | ok y q2 =>
          rw [hd] at HV hfy
          have HFY := hid hfy
          have HL2 := hid (show loopP s 45 OV (f - 1) (ks ++ [y]) q2 = rP from by
            rw [← HL.out, loop_step H45.out hd (by have := HQ.out; omega)])
          simp only [] at HV
          have hm : m ≤ 10000000000 := by have := HQ.out; have := HS.out; omega
          clear hd hfy
          go_upto_region 3 with (first | (go_at_call 99; refine hI.mono ?_; rintro e w7 ⟨rfl, h7, k7⟩; have H7 := hid h7; have K7 := hid (HKw.out.trans k7); have S7 := hid (HS'.out.kp k7 HR1.out); have Z7 := hid (Nat.le_trans HZw.out k7.size); clear h7 k7 hI))
          have hw7 : W1.heap.size ≤ w7.heap.size := Z7.out
          clear HIS
          go_wp2_with (first | (go_at_call 98; refine (HV.out _ H7.out).mono ?_; rintro e w8 ⟨⟨u2, rfl, hy, h8⟩, k8⟩; have H8 := hid h8; have K8 := hid (K7.out.trans k8); have hz8 := k8.size; obtain ⟨xs, hown, hst⟩ := S7.out.grow (S7.out.kp k8 HR1.out) k8.size hw7 (by simp) hy; have HOWN := hid hown; have HST := hid hst; simp only [ivA]; clear h8 k8 hy hown hst) | (at_builtin; go_loud (refine app_elemF rfl (.tmp 11) (.tmp 14) Tryz.underItems Tryz.infoItem rfl (by decide) (by decide) rfl W1.heap.size _ m xs rfl (HOWN.out _) ⟨w8.heap.size, 0, none⟩ (ivC u2) rfl rfl (fun j u h => cell_news_at w8 (ivC u2) _ rfl j u h) (by simp [ivC, Value.oneCell']) hm (by simp; omega) ?_); intro v5 w5 ho5 hg5 hf5; obtain ⟨A5, c5, rfl⟩ := own_slice ho5; obtain ⟨n1, n2, n3⟩ := HST.out _ _ _ ho5 hg5 hf5; have N1 := hid n1; have N2 := hid (show Rdr w5 rb s q2 from (n2 rb (.inl HR1.out)).trans H8.out); have N4 := hid (n3 rb w K8.out HWZ.out); have N5 := hid (Nat.le_trans hw7 (Nat.le_trans hz8 (Nat.le_trans (by simp) hg5.size))); clear n1 n2 n3 ho5 hg5 hf5))
          go_roundw
          case rel => exact ⟨ks ++ [y], A5, m + 1, c5, q2, f - 1, ⟨HFY.out.2, by have := HQ.out; have := HFY.out.1; omega, by have := HQ.out; have := HFY.out.1; omega⟩, rfl, HL2, N2, N1, N4, N5⟩
          case measure =>
            rw [HRw.out.cells.c2, N2.out.cells.c2]
            simp only [Option.getD_some, intOf]
            have := HQ1.out; have := HFY.out.1
            omega
      · rw [show decide (byt s q = 45) = false from decide_eq_false h45, show isQ s 45 q = q from if_neg h45] at hI
        have HX3 := hid (show rP = .ok ks q from by
          rw [← HL.out, loop_end h45 (by have := HQ.out; omega)])
        clear h45
        go_wp2_with (first | (go_at_call 99; refine hI.mono ?_; rintro e w7 ⟨rfl, h7, k7⟩; have H7 := hid h7; have K7 := hid (HKw.out.trans k7); have S7 := hid (HS'.out.kp k7 HR1.out); clear h7 k7 hI))
        go_ret
        exact RdP.ok HX3.out rfl (S7.out.base HWZ.out) H7.out K7.out
end Go.Proofs.YtimblabaeclhpaaGreat
