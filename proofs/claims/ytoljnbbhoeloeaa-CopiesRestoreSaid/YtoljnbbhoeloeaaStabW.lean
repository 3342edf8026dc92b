/- WALK: the stable sort, of any number of elements. -/
import Derived.Test.YtoljnbbhoeloeaaSymM
namespace Go.Proofs.Ytoljnbbhoeloeaa
open Go.RowKit Go.Shelf Go.Lib Go.Sort
theorem blk_put {s t a b : Nat} {d d' : Array Vb} (hs : 0 < s) (h : Blk s 0 a d) (ha : a = t * s) (hout : ∀ i, i < a ∨ b ≤ i → d'[i]! = d[i]!) (hst : Srt a b d') : Blk s 0 b d' := fun i j g1 g2 g3 g4 => by
  rcases Nat.lt_or_ge j a with e1 | e1
  · rw [hout i (by omega), hout j (by omega)]; exact h i j g1 g2 e1 g4
  · rcases Nat.lt_or_ge i a with e2 | e2
    · exfalso
      have f1 : i / s < t := (Nat.div_lt_iff_lt_mul hs).2 (by omega)
      have f2 : t ≤ j / s := (Nat.le_div_iff_mul_le hs).2 (by omega)
      omega
    · exact hst i j e2 g2 g3
theorem ins_out (d : Array Vb) (a b : Nat) (hab : a ≤ b) (hb : b ≤ d.size) : ∀ i, i < a ∨ b ≤ i → (Sort.insertionSort ltV d a b)[i]! = d[i]! := by
  have h := (insertionSort_holds swo_ltV d a b hab hb).1
  intro i hi
  exact (h.2.1 i hi)
set_option maxHeartbeats 8000000 in
set_option maxRecDepth 1000000 in
theorem stable_full (blk off cap : Nat) (d : Array Vb) (w : World) (hH : HoldsK encV 3 w blk off d) (hblk : blk < w.heap.size) (hsz : d.size < 1000000000) :
    Calls Try.prog 76 #[.slice (some ⟨blk, off, none⟩) d.size cap, .int .i64 d.size, .func (.func 50) #[] #[]] w fun e w' =>
      e = .returned (.tuple #[]) ∧ ∃ d', Stab d d' ∧ SWK encV 3 w blk off d' w' := by
  have R : RowK encV 3 w blk off d := ⟨fun _ => rfl, encV_one, hH, hblk⟩
  have HINS : Hid (∀ (x y : Nat) (dk : Array Vb) (W : World), dk.size = d.size → SWK encV 3 w blk off dk W → x ≤ y → y ≤ d.size → Calls Try.prog 91 #[.slice (some ⟨blk, off, none⟩) d.size cap, .int .i64 x, .int .i64 y, .func (.func 50) #[] #[]] W fun e w' => e = .returned (.tuple #[]) ∧ ∃ d', (Keep dk d' ∧ (∀ i, i < x ∨ y ≤ i → d'[i]! = dk[i]!) ∧ Srt x y d') ∧ SWK encV 3 w blk off d' w') := fun x y dk W h1 h2 h3 h4 => by
    have hc := ins_any blk off cap x y dk W (h2.holds hblk hH h1) (h2.lt hblk) h3 (by omega) (by omega)
    rw [h1] at hc
    refine hc.mono ?_
    rintro e w' ⟨rfl, n, os, rfl⟩
    have k := keep_ins dk x y (by omega)
    exact ⟨rfl, _, ⟨k, ins_out dk x y h3 (by omega), srt_of (sorted_ins dk x y h3 (by omega))⟩, h2.on hblk n _ os k.1⟩
  have HSYM : Hid (∀ (x y z : Nat) (dk : Array Vb) (W : World), dk.size = d.size → SWK encV 3 w blk off dk W → x < y → y < z → z ≤ d.size → Srt x y dk → Srt y z dk → Calls Try.prog 92 #[.slice (some ⟨blk, off, none⟩) d.size cap, .int .i64 x, .int .i64 y, .int .i64 z, .func (.func 50) #[] #[]] W fun e w' => e = .returned (.tuple #[]) ∧ ∃ d', Merged x z dk d' ∧ SWK encV 3 w blk off d' w') := fun x y z dk W h1 h2 h3 h4 h5 h6 h7 => by
    have := symMerge_any (z - x) blk off cap x y z d dk w W (Nat.le_refl _) R (cmp_lays _ _ _ _) h1.symm h2 h3 h4 (by omega) (by omega) h6 h7
    rwa [h1] at this
  obtain ⟨n, hn⟩ : ∃ n, n = d.size := ⟨_, rfl⟩
  rw [← hn] at HINS HSYM hsz ⊢
  have S0 : Aside (SWK encV 3 w blk off d w) := SWK.start hH
  have Hn := hid hn
  clear hn hH R
  go_enter Try.func76, Try.ntmps76
  go_wp2_with fail
  go_loopw [7, 8] (fun u v wr => ∃ (t a : Nat) (dk : Array Vb), u = .int .i64 a ∧ v = .int .i64 ((a : Int) + 20) ∧ a ≤ n ∧ Hid (a = t * 20) ∧ Hid (dk.size = n) ∧ Hid (Keep d dk) ∧ Hid (Blk 20 0 a dk) ∧ Aside (SWK encV 3 w blk off dk wr)) (fun u _ _ => n - (intOf u).toNat)
  case atStart => exact ⟨0, 0, d, rfl, by go_num, by omega, rfl, Hn.out.symm, Keep.refl d, blk_none _ _ _ _ (by omega), S0⟩
  case round =>
    clear S0
    obtain ⟨t, a, dk, rfl, rfl, han, HA, HSZ, HK, HB, S1⟩ := hrel
    by_cases hb : a + 20 ≤ n
    · have hbz : (a : Int) + 20 ≤ (n : Int) := by omega
      have hcx := HINS.out a (a + 20) dk wr HSZ.out S1.out (by omega) hb
      rw [show (((a + 20 : Nat)) : Int) = (a : Int) + 20 by omega] at hcx
      have HCX := hid hcx
      clear hcx
      go_wp2_with (go_at_call 91; refine HCX.out.mono ?_; rintro e' w2 ⟨rfl, d2, h2, hS⟩; have H2 := hid h2; have S2 : Aside _ := hS; clear h2 hS)
      go_roundw
      case rel => exact ⟨t + 1, a + 20, d2, by go_num, by go_num, hb, by show _ = _; rw [HA.out]; omega, H2.out.1.1.trans HSZ.out, HK.out.trans H2.out.1, blk_put (by omega) HB.out HA.out H2.out.2.1 H2.out.2.2, S2⟩
      case measure => simp [intOf]; omega
    · have hbz : ¬ (a : Int) + 20 ≤ (n : Int) := by omega
      have HCX := hid (HINS.out a n dk wr HSZ.out S1.out han (Nat.le_refl _))
      go_wp2_with (go_at_call 91; refine HCX.out.mono ?_; rintro e' w2 ⟨rfl, d2, h2, hS⟩; have H2 := hid h2; have S2 : Aside _ := hS; clear h2 hS)
      have hB2 : Blk 20 0 n d2 := blk_put (by omega) HB.out HA.out H2.out.2.1 H2.out.2.2
      have HB2 := hid hB2
      have HK2 := hid (HK.out.trans H2.out.1)
      have HSZ2 := hid (H2.out.1.1.trans HSZ.out)
      clear hB2 H2 HCX HB HK HSZ HA S1 hb hbz
      go_loopw [6] (fun u wr => ∃ (s : Nat) (dk : Array Vb), u = .int .i64 s ∧ 0 < s ∧ s ≤ 2 * n + 20 ∧ Hid (dk.size = n) ∧ Hid (Keep d dk) ∧ Hid (Blk s 0 n dk) ∧ Aside (SWK encV 3 w blk off dk wr)) (fun u _ => n - (intOf u).toNat)
      case atStart => exact ⟨20, d2, rfl, by omega, by omega, HSZ2.out, HK2.out, HB2.out, S2⟩
      case round =>
        clear HB2 HK2 HSZ2 S2
        obtain ⟨s, dk, rfl, hs0, hsn, HSZ, HK, HB, S1⟩ := hrel
        by_cases hsl : s < n
        · have hslz : (s : Int) < (n : Int) := by omega
          have r2 : IntKind.i64.wrap (2 * (s : Int)) = 2 * (s : Int) := by rw [IntKind.wrap_i64]; omega
          have r3 : IntKind.i64.wrap ((s : Int) * 2) = (s : Int) * 2 := by rw [IntKind.wrap_i64]; omega
          go_wp2_with fail
          go_loopw [7, 8] (fun u v wr => ∃ (t a : Nat) (dk : Array Vb), u = .int .i64 a ∧ v = .int .i64 ((a : Int) + 2 * (s : Int)) ∧ a ≤ n ∧ Hid (a = t * (2 * s)) ∧ Hid (dk.size = n) ∧ Hid (Keep d dk) ∧ Hid (Blk (2 * s) 0 a dk) ∧ Hid (Blk s a n dk) ∧ Aside (SWK encV 3 w blk off dk wr)) (fun u _ _ => n - (intOf u).toNat)
          case atStart => exact ⟨0, 0, dk, rfl, by go_num, by omega, by show _ = _; omega, HSZ.out, HK.out, blk_none _ _ _ _ (by omega), HB.out, S1⟩
          case round =>
            clear HSZ HK HB S1
            obtain ⟨t, a, dk, rfl, rfl, han, HA, HSZ, HK, HB, HB2, S1⟩ := hrel
            have ham : a = (t * 2) * s := by rw [HA.out, Nat.mul_assoc]
            have HAm := hid ham
            clear ham
            by_cases hb : a + 2 * s ≤ n
            · have hbz : (a : Int) + 2 * (s : Int) ≤ (n : Int) := by omega
              have g1 : Srt a (a + s) dk := blk_srt HB2.out HAm.out (Nat.le_refl _) (Nat.le_refl _) (by omega)
              have g2 : Srt (a + s) (a + 2 * s) dk := blk_srt (t := t * 2 + 1) HB2.out (by rw [Nat.add_mul, ← HAm.out]; omega) (by omega) (by omega) hb
              have hcx := HSYM.out a (a + s) (a + 2 * s) dk wr HSZ.out S1.out (by omega) (by omega) hb g1 g2
              rw [show (((a + 2 * s : Nat)) : Int) = (a : Int) + 2 * (s : Int) by omega, show (((a + s : Nat)) : Int) = (a : Int) + (s : Int) by omega] at hcx
              have HCX := hid hcx
              have r4 : IntKind.i64.wrap ((a : Int) + (s : Int)) = (a : Int) + (s : Int) := by rw [IntKind.wrap_i64]; omega
              have r5 : IntKind.i64.wrap ((a : Int) + 2 * (s : Int) + 2 * (s : Int)) = (a : Int) + 2 * (s : Int) + 2 * (s : Int) := by rw [IntKind.wrap_i64]; omega
              clear hcx g1 g2
              go_wp2_with (go_at_call 92; refine HCX.out.mono ?_; rintro e' w2 ⟨rfl, d2, h2, hS⟩; have H2 := hid h2; have S2 : Aside _ := hS; clear h2 hS)
              go_roundw
              case rel => exact ⟨t + 1, a + 2 * s, d2, by go_num, by go_num, hb, by show _ = _; rw [HA.out, Nat.add_mul]; omega, H2.out.1.size.trans HSZ.out, HK.out.trans H2.out.1.keep, blk_put (by omega) HB.out HA.out H2.out.1.out H2.out.2, blk_behind (by omega) HB2.out H2.out.1, S2⟩
              case measure => simp [intOf]; omega
            · have hbz : ¬ (a : Int) + 2 * (s : Int) ≤ (n : Int) := by omega
              have r4 : IntKind.i64.wrap ((a : Int) + (s : Int)) = (a : Int) + (s : Int) := by rw [IntKind.wrap_i64]; omega
              by_cases hm : a + s < n
              · have hmz : (a : Int) + (s : Int) < (n : Int) := by omega
                have g1 : Srt a (a + s) dk := blk_srt HB2.out HAm.out (Nat.le_refl _) (Nat.le_refl _) (by omega)
                have g2 : Srt (a + s) n dk := blk_srt (t := t * 2 + 1) HB2.out (by rw [Nat.add_mul, ← HAm.out]; omega) (by omega) (by omega) (Nat.le_refl _)
                have hcx := HSYM.out a (a + s) n dk wr HSZ.out S1.out (by omega) (by omega) (Nat.le_refl _) g1 g2
                rw [show (((a + s : Nat)) : Int) = (a : Int) + (s : Int) by omega] at hcx
                have HCX := hid hcx
                clear hcx g1 g2
                go_wp2_with (go_at_call 92; refine HCX.out.mono ?_; rintro e' w2 ⟨rfl, d2, h2, hS⟩; have H2 := hid h2; have S2 : Aside _ := hS; clear h2 hS)
                go_roundw
                case rel => exact ⟨2 * s, d2, by go_num, by omega, by omega, H2.out.1.size.trans HSZ.out, HK.out.trans H2.out.1.keep, blk_put (by omega) HB.out HA.out H2.out.1.out H2.out.2, S2⟩
                case measure => simp [intOf]; omega
              · have hmz : ¬ (a : Int) + (s : Int) < (n : Int) := by omega
                have g1 : Srt a n dk := blk_srt HB2.out HAm.out (by omega) (Nat.le_refl _) (Nat.le_refl _)
                have HG := hid g1
                clear g1
                go_wp2_with fail
                go_roundw
                case rel => exact ⟨2 * s, dk, by go_num, by omega, by omega, HSZ.out, HK.out, blk_put (by omega) HB.out HA.out (fun _ _ => rfl) HG.out, S1⟩
                case measure => simp [intOf]; omega
        · have hslz : ¬ (s : Int) < (n : Int) := by omega
          go_wp2_with fail
          go_end0
          exact ⟨rfl, dk, ⟨HK.out, by rw [← Hn.out]; exact of_srt (blk_all HB.out (by omega))⟩, S1.out⟩
end Go.Proofs.Ytoljnbbhoeloeaa
