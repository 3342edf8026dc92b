/- ostraconref01.Check. -/
import Derived.Test.YtaoddenadfmdbaaSgn2
namespace Go.Proofs.Ytaoddenadfmdbaa
open Go.RowKit
theorem refCode_class {n0 : Nat} {wb : World} (t : ByteArray) (z : BW n0 wb) : Calls Try.prog 20 #[.string t] z.val fun e w' => e = .returned (.bool (codeB t)) ∧ ∃ z' : BW n0 wb, w' = z'.val :=
  (refCode_any t z.val).mono fun _ _ ⟨he, hw⟩ => ⟨he, z, hw.symm⟩
theorem listE_many {P : Int} {l : List Sg} (h : 200 < l.length) : listE P l = 2 := if_pos h
theorem listE_per {P : Int} {l : List Sg} (h : ¬ 200 < l.length) (h2 : ¬ (1 ≤ P ∧ P ≤ 9)) : listE P l = 13 := by unfold listE; rw [if_neg h, if_pos h2]
theorem listE_rest {P : Int} {l : List Sg} (h : ¬ 200 < l.length) (h2 : 1 ≤ P ∧ P ≤ 9) : listE P l = firstE (sgnE P l) l.length := by unfold listE; rw [if_neg h, if_neg (fun h3 => h3 h2)]
set_option maxRecDepth 100000 in
set_option maxHeartbeats 2000000 in
theorem refListCheck_any (P : Int) (l : List Sg) (hl : l.length ≤ 1000000) (hv : ∀ s ∈ l, s.vals.length ≤ 9223372036854775807) (A : Option Addr) (c : Nat) (w : World) (r : Sgs w w.heap.size A l) :
    Calls Try.prog 13 #[.agg #[.int .i64 P, .slice A l.length c]] w fun e w' => e = .returned (.int .i64 (listE P l)) ∧ Below w.heap.size w w' := by
  obtain ⟨w1, hw1⟩ : ∃ w1, w1 = w.alloc (.cells #[.int .i64 P, .slice A l.length c] 24) := ⟨_, rfl⟩
  have hb1 : Below w.heap.size w w1 := by rw [hw1]; exact (Below.refl _ _).alloc (Nat.le_refl _) _
  have hz1 : w.heap.size < w1.heap.size := by rw [hw1]; simp
  have c0 : w1.cell? ⟨w.heap.size, 0, none⟩ = some (.int .i64 P) := by rw [hw1]; simp
  have c1 : w1.cell? ⟨w.heap.size, 1, none⟩ = some (.slice A l.length c) := by rw [hw1]; simp
  have r1 : Sgs w1 w1.heap.size A l := (r.below hb1).more (by omega)
  obtain ⟨n, hn⟩ : ∃ n, n = l.length := ⟨_, rfl⟩
  obtain ⟨E, hE⟩ : ∃ E, E = listE P l := ⟨_, rfl⟩
  rw [← hE]
  have m1 := listE_many (P := P) (l := l); have m2 := listE_per (P := P) (l := l); have m3 := listE_rest (P := P) (l := l)
  rw [← hE, ← hn] at m1 m2 m3
  rw [← hn] at hl c1 hw1 ⊢
  have HW1 := hid hw1; have HB1 := hid hb1; have HR := hid r1; have HN := hid hn; have HZ1 := hid hz1; have HV := hid hv
  have M1 := hid m1; have M2 := hid m2; have M3 := hid m3
  have HBW : Hid (Below w.heap.size w (w.alloc (.cells #[.int .i64 P, .slice A n c] 24))) := by rw [← hw1]; exact hb1
  clear hw1 hb1 r r1 hn hE hz1 hv m1 m2 m3
  go_enter Try.func13, Try.ntmps13
  go_wp2_with fail
  all_goals try (go_ret; exact ⟨congrArg (fun x => Ending.returned (.int .i64 x)) (by first | exact (M1.out (by omega)).symm | exact (M2.out (by omega) (by omega)).symm), HBW.out⟩)
  have HE := hid (M3.out (by omega) (by omega))
  rw [← HW1.out]
  clear M1 M2 M3 HBW HW1
  have HC0 := hid fun (wr : World) (h : Below w1.heap.size w1 wr) => (h.cell (p := ⟨w.heap.size, 0, none⟩) HZ1.out).trans c0
  have HC1 := hid fun (wr : World) (h : Below w1.heap.size w1 wr) => (h.cell (p := ⟨w.heap.size, 1, none⟩) HZ1.out).trans c1
  have HW : Hid (∀ wr, Below w1.heap.size w1 wr → Below w.heap.size w wr) := fun wr h => HB1.out.trans (h.mono (by have := HZ1.out; omega))
  clear c0 c1 HB1 HZ1
  obtain ⟨B0, hB0⟩ : ∃ B0, B0 = w.heap.size := ⟨_, rfl⟩
  rw [← hB0] at HC0 HC1 ⊢
  clear hB0
  go_loopw [3] (fun kv wr => ∃ k : Nat, k ≤ n ∧ kv = .int .i64 k ∧ Hid (firstE (sgnE P l) k = 0) ∧ Hid (Below w1.heap.size w1 wr)) (fun kv _ => n - (intOf kv).toNat)
  case atStart => exact ⟨0, by omega, rfl, hid rfl, hid (Below.refl _ _)⟩
  case round =>
    obtain ⟨k, hk, rfl, hF, hB⟩ := hrel
    have cc0 := HC0.out wr hB.out
    have cc1 := HC1.out wr hB.out
    by_cases hkn : k < n
    · have hkl : k < l.length := by rw [← HN.out]; exact hkn
      have hmem : (l[k]'hkl) ∈ l := List.getElem_mem hkl
      have hq : (k : Int) < (n : Int) := by omega
      obtain ⟨b1, o1, hA1, hb1, hcA⟩ := HR.out.at (by omega)
      subst hA1
      have hbz : ∀ z : BW w1.heap.size wr, Below w1.heap.size w1 z.val := fun z => hB.out.trans z.ok
      have hx := fun z : BW w1.heap.size wr => (hcA k hkl).below (hbz z) hb1
      have d1 := fun z => (hx z).code
      have cz0 := fun z : BW w1.heap.size wr => HC0.out z.val (hbz z)
      have cz1 := fun z : BW w1.heap.size wr => HC1.out z.val (hbz z)
      have hco := fun z : BW w1.heap.size wr => refCode_class (l[k]'hkl).code z
      have hll : l.length ≤ 1000000 := by rw [← HN.out]; exact hl
      have hix0 := fun z : BW w1.heap.size wr => index_any P l (l[k]'hkl).code hll (some ⟨b1, o1, none⟩) c z.val ((HR.out.below (hbz z)).more (hbz z).size)
      have hix := below_class (n0 := w1.heap.size) (wb := wr) hB.out.size hix0
      clear hix0 hll
      have hse := seen_eq hkl
      have hsg := sg_at hkl
      have hsE : sgnE P l k = if codeB (l[k]'hkl).code = true ∧ seenB l k = false then sgE P (l[k]'hkl) else 10 := by unfold sgnE; rw [hsg]
      rw [hsg] at hse
      have hbad : sgnE P l k ≠ 0 → E = sgnE P l k := fun h => by rw [HE.out, HN.out]; exact firstE_at hF.out h _ hkl
      have hgood : sgnE P l k = 0 → firstE (sgnE P l) (k + 1) = 0 := fun h => firstE_s hF.out h
      have hsn := hid fun (W : World) (h : Below w1.heap.size w1 W) => sign_any P (l[k]'hkl) (HV.out _ hmem) W (((HR.out.vls _ hmem).below h).more h.size)
      have hxx := hid fun (W : World) (h : Below w1.heap.size w1 W) => (hcA k hkl).below h hb1
      rw [hsE] at hbad hgood
      rw [← HN.out] at hix
      generalize idxC l (l[k]'hkl).code = x at hix hse
      generalize seenB l k = sb at hse hbad hgood
      generalize codeB (l[k]'hkl).code = cb at hco hbad hgood
      generalize sgE P (l[k]'hkl) = es at hbad hgood hsn
      generalize (l[k]'hkl) = s at d1 hco hix hsn hxx
      clear hsE hsg hmem hx hcA hF
      obtain ⟨co, wi, hi, ev, vs, va, vc⟩ := s
      simp only [] at d1 hco hix hsn hxx
      have HBAD := hid hbad; have HGOOD := hid hgood; have HCO := hid hco; have HIX := hid hix; have HBZ := hid hbz
      clear hbad hgood hco hix hbz
      have HB := hid (Below.refl w1.heap.size wr)
      cases cb with
      | false =>
        have HX := hid (HBAD.out (by simp))
        go_wp2_with fail
        refine region_below (by kernel_rfl) (by kernel_rfl) HB.out ?_
        repeat (go_big_quiet_step ((go_at_call 20; go_must (exact (HCO.out _)))))
        refine wpQuiet_nil ?_
        intro _ hw'
        obtain ⟨z, rfl⟩ := hw'
        have HZ := hid (HBZ.out z)
        clear d1 cz0 cz1 HB
        go_wp2_with fail
        go_ret
        exact ⟨congrArg (fun x => Ending.returned (.int .i64 x)) (by rw [HX.out]; simp), HW.out _ HZ.out⟩
      | true =>
        cases sb with
        | true =>
          have HX := hid (HBAD.out (by simp))
          go_wp2_with fail
          refine region_below (by kernel_rfl) (by kernel_rfl) HB.out ?_
          repeat (go_big_quiet_step (first | (go_at_call 20; go_must (exact (HCO.out _))) | (go_at_call 21; go_must (exact (HIX.out _)))))
          refine wpQuiet_nil ?_
          intro _ hw'
          obtain ⟨z, rfl⟩ := hw'
          have HZ := hid (HBZ.out z)
          clear d1 cz0 cz1 HB
          go_wp2_with fail
          go_ret
          exact ⟨congrArg (fun x => Ending.returned (.int .i64 x)) (by rw [HX.out]; simp), HW.out _ HZ.out⟩
        | false =>
          have HX := hid (fun h => (HBAD.out (by simpa using h)).trans (if_pos ⟨rfl, rfl⟩))
          have HY := hid (fun h => HGOOD.out (by simpa using h))
          go_wp2_with fail
          refine region_below (by kernel_rfl) (by kernel_rfl) HB.out ?_
          repeat (go_big_quiet_step (first | (go_at_call 20; go_must (exact (HCO.out _))) | (go_at_call 21; go_must (exact (HIX.out _)))))
          refine wpQuiet_nil ?_
          intro _ hw'
          obtain ⟨z, rfl⟩ := hw'
          have HZ := hid (HBZ.out z)
          clear d1 cz0 cz1 HB HBAD HGOOD HIX HCO hse cc0 cc1
          have hz2 : ∀ y : BW w1.heap.size z.val, Below w1.heap.size w1 y.val := fun y => HZ.out.trans y.ok
          have hx := fun y : BW w1.heap.size z.val => hxx.out y.val (hz2 y)
          have e1 := fun y => (hx y).code; have e2 := fun y => (hx y).wide; have e3 := fun y => (hx y).high; have e4 := fun y => (hx y).even; have e5 := fun y => (hx y).vals
          simp only [] at e1 e2 e3 e4 e5
          have cz0 := fun y : BW w1.heap.size z.val => HC0.out y.val (hz2 y)
          have cz1 := fun y : BW w1.heap.size z.val => HC1.out y.val (hz2 y)
          have HS := hid (below_class (n0 := w1.heap.size) (wb := z.val) HZ.out.size (fun y => hsn.out y.val (hz2 y)))
          have HB := hid (Below.refl w1.heap.size z.val)
          have HZ2 := hid hz2
          clear hx hz2 HBZ hsn hxx
          go_wp2_with fail
          refine region_below (by kernel_rfl) (by kernel_rfl) HB.out ?_
          repeat (go_big_quiet_step ((go_at_call 22; go_must (exact (HS.out _)))))
          refine wpQuiet_nil ?_
          intro _ hw'
          obtain ⟨y, rfl⟩ := hw'
          have HZ3 := hid (HZ2.out y)
          clear e1 e2 e3 e4 e5 cz0 cz1 HB HZ2
          by_cases h0 : es = 0
          · have HY2 := hid (HY.out h0)
            have f0 : (es != 0) = false := by simp [h0]
            clear h0
            go_wp2_with fail
            go_roundw
            case rel => exact ⟨k + 1, by omega, by go_num, HY2.out, HZ3.out⟩
            case measure => simp [intOf]; omega
          · have HX2 := hid (HX.out h0)
            have f0 : (es != 0) = true := by simp [h0]
            clear h0
            go_wp2_with fail
            go_ret
            exact ⟨congrArg (fun x => Ending.returned (.int .i64 x)) HX2.out.symm, HW.out _ HZ3.out⟩
    · obtain rfl : n = k := by omega
      have HX := hid (HE.out.trans hF.out)
      clear hF HE
      go_wp2_with fail
      go_ret
      exact ⟨congrArg (fun x => Ending.returned (.int .i64 x)) HX.out.symm, HW.out _ hB.out⟩
end Go.Proofs.Ytaoddenadfmdbaa
