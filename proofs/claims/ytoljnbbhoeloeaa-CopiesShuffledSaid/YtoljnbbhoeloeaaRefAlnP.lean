/- WALK: the reference's align. -/
import Derived.Test.YtoljnbbhoeloeaaRefAln
namespace Go.Proofs.Ytoljnbbhoeloeaa
open Go.RowKit
set_option maxRecDepth 100000 in
set_option maxHeartbeats 1000000 in
theorem ref_align_any (a b : List Int) (Aa Ab : Option Addr) (ca cb : Nat) (ha : a.length ≤ 60) (hb : b.length ≤ 60) (w : World) (ra : Rd w w.heap.size Aa a) (rb : Rd w w.heap.size Ab b) :
    Calls Try.prog 60 #[.slice Aa a.length ca, .slice Ab b.length cb] w fun e w' => ∃ v, e = .returned (.tuple #[v, .int .i64 (D a b : Nat)]) ∧
      w'.ownsRow w.heap.size 51 2 v (pairsOf a b).length (flatP (pairsOf a b)) ∧ Below w.heap.size w w' := by
  have hco := costs_any a b Aa Ab ca cb ha hb w ra rb
  obtain ⟨la, hla⟩ : ∃ la, la = a.length := ⟨_, rfl⟩
  obtain ⟨lb, hlb⟩ : ∃ lb, lb = b.length := ⟨_, rfl⟩
  rw [← hla, ← hlb] at hco ⊢
  rw [← hla] at ha
  rw [← hlb] at hb
  have Hla := hid hla; have Hlb := hid hlb; clear hla hlb
  have Hco := hid hco; clear hco
  go_enter Try.func60, Try.ntmps60
  go_wp2_with fail
  refine Hco.out.mono ?_
  rintro e wo ⟨rfl, htab, hbel⟩
  have HB := hid hbel; have Htab := hid htab; clear hbel htab Hco
  go_wp2_with fail
  go_loopw [7, 8, 9] (fun v i k wr => ∃ (i' k' n : Nat) (P : List (Int × Int)), i' ≤ la ∧ k' ≤ lb ∧ i = .int .i64 i' ∧ k = .int .i64 k' ∧ la - i' + (lb - k') ≤ n ∧ P ++ tr n i' k' (a.drop i') (b.drop k') = pairsOf a b ∧
    wr.ownsRow wo.heap.size 51 2 v P.length (flatP P) ∧ Below wo.heap.size wo wr) (fun _ i k _ => (la + lb) - ((intOf i).toNat + (intOf k).toNat))
  case atStart => exact ⟨0, 0, la + lb, [], by omega, by omega, rfl, rfl, by omega, by rw [Hla.out, Hlb.out]; rfl, World.ownsRow_nil _ _ _ _, Below.refl _ _⟩
  case round =>
    obtain ⟨i, k, n, P, hi, hk, rfl, rfl, hn, htr, hown, hbr⟩ := hrel
    have hPl : P.length ≤ 120 := by
      have := congrArg List.length htr
      have h2 := tr_len (a.length + b.length) 0 0 a b
      rw [List.length_append] at this
      rw [← Hla.out, ← Hlb.out] at h2
      unfold pairsOf at this
      rw [← Hla.out, ← Hlb.out] at this
      omega
    have Hn := hid hn; have Htr := hid htr; have Hbr := hid hbr; clear hn htr hbr
    have hsz1 := Hbr.out.size
    by_cases hil : i < la
    · obtain ⟨p0, p4⟩ := Htab.out.at Hbr.out i k hi hk
      obtain ⟨p1, p3⟩ := Htab.out.at Hbr.out (i + 1) k (by omega) hk
      obtain ⟨X, hX⟩ : ∃ X, X = Dat a b i k := ⟨_, rfl⟩
      obtain ⟨y, hy⟩ : ∃ y, y = Dat a b (i + 1) k := ⟨_, rfl⟩
      obtain ⟨R0, hR0⟩ : ∃ R0, R0 = w.heap.size + 1 + (la - i) := ⟨_, rfl⟩
      obtain ⟨R1, hR1⟩ : ∃ R1, R1 = w.heap.size + 1 + (la - (i + 1)) := ⟨_, rfl⟩
      have d2 : y ≤ 2 * (la + lb) := by have := Dat_le a b (i + 1) k; rw [← Hla.out, ← Hlb.out] at this; rw [hy]; exact this
      rw [← hR0] at p0 p4; rw [← hR1] at p1 p3; rw [← hX] at p4; rw [← hy] at p3
      have HX := hid hX; have Hy := hid hy; have HR0 := hid hR0; have HR1 := hid hR1; clear hX hy hR0 hR1
      have r1 : IntKind.i64.wrap ((i : Int) + 1) = (i : Int) + 1 := IntWalk.i64_in _ (by omega)
      have r3 : (0 : Int) ≤ (i : Int) + 1 := by omega
      have r5 : (i : Int) + 1 < (la : Int) + 1 := by omega
      have r7 : ((i : Int) + 1).toNat = i + 1 := by omega
      have r9 : (i : Int) < (la : Int) + 1 := by omega
      have r10 : (k : Int) < (lb : Int) + 1 := by omega
      have r11 : (i : Int) < (la : Int) := by omega
      have r14 : IntKind.i64.wrap (2 + (y : Int)) = 2 + (y : Int) := IntWalk.i64_in _ (by omega)
      by_cases hkl : k < lb
      · obtain ⟨_, p2⟩ := Htab.out.at Hbr.out (i + 1) (k + 1) (by omega) (by omega)
        obtain ⟨x, hx⟩ : ∃ x, x = Dat a b (i + 1) (k + 1) := ⟨_, rfl⟩
        obtain ⟨u, hu⟩ : ∃ u, bc (nth a i) (nth b k) = u := ⟨_, rfl⟩
        have d1 : x ≤ 2 * (la + lb) := by have := Dat_le a b (i + 1) (k + 1); rw [← Hla.out, ← Hlb.out] at this; rw [hx]; exact this
        have d4 := bc_le (nth a i) (nth b k)
        rw [hu] at d4
        rw [← HR1.out, ← hx] at p2
        have Hx := hid hx; have Hu := hid hu; clear hx hu
        have r2 : IntKind.i64.wrap ((k : Int) + 1) = (k : Int) + 1 := IntWalk.i64_in _ (by omega)
        have r4 : (0 : Int) ≤ (k : Int) + 1 := by omega
        have r6 : (k : Int) + 1 < (lb : Int) + 1 := by omega
        have r8 : ((k : Int) + 1).toNat = k + 1 := by omega
        have r12 : (k : Int) < (lb : Int) := by omega
        have r13 : IntKind.i64.wrap ((u : Int) + x) = (u : Int) + x := IntWalk.i64_in _ (by omega)
        obtain ⟨ba, oa, rfl, hba, hca⟩ := ra.at (by rw [← Hla.out]; omega)
        obtain ⟨bb, ob, rfl, hbb, hcb⟩ := rb.at (by rw [← Hlb.out]; omega)
        have p5 : wr.cell? ⟨ba, oa + i, none⟩ = some (.int .i64 (nth a i)) := ((HB.out.trans (Hbr.out.mono HB.out.size)).cell (p := ⟨ba, oa + i, none⟩) hba).trans (hca i (by rw [← Hla.out]; exact hil))
        have p6 : wr.cell? ⟨bb, ob + k, none⟩ = some (.int .i64 (nth b k)) := ((HB.out.trans (Hbr.out.mono HB.out.size)).cell (p := ⟨bb, ob + k, none⟩) hbb).trans (hcb k (by rw [← Hlb.out]; exact hkl))
        clear hca hcb ra rb d1 d2 d4
        by_cases hA : X = u + x
        · obtain ⟨m, hm1, hm2⟩ := tr_both (a := a) (b := b) (n := n) (i := i) (k := k) (by rw [← Hla.out]; exact hil) (by rw [← Hlb.out]; exact hkl) (by rw [← Hla.out, ← Hlb.out]; exact Hn.out) (by rw [← HX.out, ← Hx.out]; exact hA.trans (by rw [← Hu.out]; rfl))
          rw [← Hla.out, ← Hlb.out] at hm1
          have Hm := hid (And.intro hm1 hm2); clear hm1 hm2
          have he : ((X : Int) == (u : Int) + x) = true := by simp; omega
          clear hA
          go_wp2_with fail
          go_quiet ((go_at_call 82; exact Calls.quiet_of_same (pair_at Hu.out _)))
          clear he p0 p1 p2 p3 p4 p5 p6 r1 r2 r7 r8 r13 r14
          go_wp2_with (at_builtin; refine app_elem rfl (.tmp 70) (.tmp 74) Try.underlying47 Try.infoPair rfl (by decide) (by decide) rfl wo.heap.size _ _ _ rfl (hown.alloc _) ⟨wr.heap.size, 0, none⟩ [.int .i64 i, .int .i64 k] rfl rfl (cell_news _ _ _) (by simp [Value.oneCell']) (by omega) (by simp; omega) ?_; intro v' w1 hown3 hgrow)
          go_roundw
          case rel => exact ⟨i + 1, k + 1, m, P ++ [((i : Int), (k : Int))], by omega, by omega, by go_num, by go_num, by first | exact Hm.out.1 | (have := Hm.out.1; omega), by rw [List.append_assoc]; exact (congrArg (P ++ ·) Hm.out.2).symm.trans Htr.out, by rw [flatP_snoc, List.length_append]; exact hown3, below_app ((below_dr Hbr.out _).alloc (by simp; omega) _) (hown.alloc _) hgrow (Nat.le_refl _) (by simp; omega)⟩
          case measure => simp [intOf]; omega
        · have he : ((X : Int) == (u : Int) + x) = false := by simp; omega
          have hne : Dat a b i k ≠ bc (a.getD i 0) (b.getD k 0) + Dat a b (i + 1) (k + 1) := by rw [← HX.out, ← Hx.out]; exact fun h => hA (h.trans (by rw [← Hu.out]; rfl))
          clear hA
          have Hne := hid hne; clear hne
          by_cases hB2 : X = 2 + y
          · obtain ⟨m, hm1, hm2⟩ := tr_left (a := a) (b := b) (n := n) (i := i) (k := k) (by rw [← Hla.out]; exact hil) (by rw [← Hla.out, ← Hlb.out]; exact Hn.out) (fun _ => Hne.out) (by rw [← HX.out, ← Hy.out]; exact hB2)
            rw [← Hla.out, ← Hlb.out] at hm1
            have Hm := hid (And.intro hm1 hm2); clear hm1 hm2
            have he2 : ((X : Int) == 2 + (y : Int)) = true := by simp; omega
            clear hB2
            go_wp2_with fail
            go_quiet ((go_at_call 82; exact Calls.quiet_of_same (pair_at Hu.out _)))
            clear p2 p5 p6 he r2 r8 r13
            go_wp2_with fail
            go_quiet (fail)
            clear he2 p0 p1 p3 p4 r1 r7 r14
            go_wp2_with (at_builtin; refine app_elem rfl (.tmp 104) (.tmp 107) Try.underlying47 Try.infoPair rfl (by decide) (by decide) rfl wo.heap.size _ _ _ rfl (hown.alloc _) ⟨wr.heap.size, 0, none⟩ [.int .i64 i, .int .i64 (-1)] rfl rfl (cell_news _ _ _) (by simp [Value.oneCell']) (by omega) (by simp; omega) ?_; intro v' w1 hown3 hgrow)
            go_roundw
            case rel => exact ⟨i + 1, k, m, P ++ [((i : Int), -1)], by omega, by omega, by go_num, by go_num, by first | exact Hm.out.1 | (have := Hm.out.1; omega), by rw [List.append_assoc]; exact (congrArg (P ++ ·) Hm.out.2).symm.trans Htr.out, by rw [flatP_snoc, List.length_append]; exact hown3, below_app ((below_dr Hbr.out _).alloc (by simp; omega) _) (hown.alloc _) hgrow (Nat.le_refl _) (by simp; omega)⟩
            case measure => simp [intOf]; omega
          · obtain ⟨m, hm1, hm2⟩ := tr_right (a := a) (b := b) (n := n) (i := i) (k := k) (by rw [← Hlb.out]; exact hkl) (by rw [← Hla.out, ← Hlb.out]; exact Hn.out) (fun _ => Hne.out) (fun _ => by rw [← HX.out, ← Hy.out]; exact hB2)
            rw [← Hla.out, ← Hlb.out] at hm1
            have Hm := hid (And.intro hm1 hm2); clear hm1 hm2
            have he2 : ((X : Int) == 2 + (y : Int)) = false := by simp; omega
            clear hB2
            go_wp2_with fail
            go_quiet ((go_at_call 82; exact Calls.quiet_of_same (pair_at Hu.out _)))
            clear p2 p5 p6 he r2 r8 r13
            go_wp2_with fail
            go_quiet (fail)
            clear he2 p0 p1 p3 p4 r1 r7 r14
            go_wp2_with (at_builtin; refine app_elem rfl (.tmp 23) (.tmp 26) Try.underlying47 Try.infoPair rfl (by decide) (by decide) rfl wo.heap.size _ _ _ rfl (hown.alloc _) ⟨wr.heap.size, 0, none⟩ [.int .i64 (-1), .int .i64 k] rfl rfl (cell_news _ _ _) (by simp [Value.oneCell']) (by omega) (by simp; omega) ?_; intro v' w1 hown3 hgrow)
            go_roundw
            case rel => exact ⟨i, k + 1, m, P ++ [(-1, (k : Int))], by omega, by omega, by go_num, by go_num, by first | exact Hm.out.1 | (have := Hm.out.1; omega), by rw [List.append_assoc]; exact (congrArg (P ++ ·) Hm.out.2).symm.trans Htr.out, by rw [flatP_snoc, List.length_append]; exact hown3, below_app ((below_dr Hbr.out _).alloc (by simp; omega) _) (hown.alloc _) hgrow (Nat.le_refl _) (by simp; omega)⟩
            case measure => simp [intOf]; omega
      · obtain ⟨m, hm1, hm2⟩ := tr_left (a := a) (b := b) (n := n) (i := i) (k := k) (by rw [← Hla.out]; exact hil) (by rw [← Hla.out, ← Hlb.out]; exact Hn.out) (fun h => by rw [← Hlb.out] at h; omega) (Dat_left_end (by rw [← Hla.out]; exact hil) (by rw [← Hlb.out]; omega))
        rw [← Hla.out, ← Hlb.out] at hm1
        have hXy : X = 2 + y := by rw [HX.out, Hy.out]; exact Dat_left_end (by rw [← Hla.out]; exact hil) (by rw [← Hlb.out]; omega)
        have Hm := hid (And.intro hm1 hm2); clear hm1 hm2
        have he2 : ((X : Int) == 2 + (y : Int)) = true := by simp; omega
        clear hXy d2
        have hd1 : decide ((k : Int) < lb) = false := by simp; omega
        go_wp2_with fail
        go_quiet (fail)
        go_wp2_with fail
        go_quiet (fail)
        clear he2 p0 p1 p3 p4 r1 r7 r14
        go_wp2_with (at_builtin; refine app_elem rfl (.tmp 104) (.tmp 107) Try.underlying47 Try.infoPair rfl (by decide) (by decide) rfl wo.heap.size _ _ _ rfl (hown.alloc _) ⟨wr.heap.size, 0, none⟩ [.int .i64 i, .int .i64 (-1)] rfl rfl (cell_news _ _ _) (by simp [Value.oneCell']) (by omega) (by simp; omega) ?_; intro v' w1 hown3 hgrow)
        go_roundw
        case rel => exact ⟨i + 1, k, m, P ++ [((i : Int), -1)], by omega, by omega, by go_num, by go_num, by first | exact Hm.out.1 | (have := Hm.out.1; omega), by rw [List.append_assoc]; exact (congrArg (P ++ ·) Hm.out.2).symm.trans Htr.out, by rw [flatP_snoc, List.length_append]; exact hown3, below_app ((below_dr Hbr.out _).alloc (by simp; omega) _) (hown.alloc _) hgrow (Nat.le_refl _) (by simp; omega)⟩
        case measure => simp [intOf]; omega
    · by_cases hkl : k < lb
      · have hd1 : decide ((i : Int) < la) = false := by simp; omega
        obtain ⟨m, hm1, hm2⟩ := tr_right (a := a) (b := b) (n := n) (i := i) (k := k) (by rw [← Hlb.out]; exact hkl) (by rw [← Hla.out, ← Hlb.out]; exact Hn.out) (fun h => by rw [← Hla.out] at h; omega) (fun h => by rw [← Hla.out] at h; omega)
        rw [← Hla.out, ← Hlb.out] at hm1
        have Hm := hid (And.intro hm1 hm2); clear hm1 hm2
        go_wp2_with fail
        go_quiet (fail)
        go_wp2_with fail
        go_quiet (fail)
        go_wp2_with (at_builtin; refine app_elem rfl (.tmp 23) (.tmp 26) Try.underlying47 Try.infoPair rfl (by decide) (by decide) rfl wo.heap.size _ _ _ rfl (hown.alloc _) ⟨wr.heap.size, 0, none⟩ [.int .i64 (-1), .int .i64 k] rfl rfl (cell_news _ _ _) (by simp [Value.oneCell']) (by omega) (by simp; omega) ?_; intro v' w1 hown3 hgrow)
        go_roundw
        case rel => exact ⟨i, k + 1, m, P ++ [(-1, (k : Int))], by omega, by omega, by go_num, by go_num, by first | exact Hm.out.1 | (have := Hm.out.1; omega), by rw [List.append_assoc]; exact (congrArg (P ++ ·) Hm.out.2).symm.trans Htr.out, by rw [flatP_snoc, List.length_append]; exact hown3, below_app ((below_dr Hbr.out _).alloc (by simp; omega) _) (hown.alloc _) hgrow (Nat.le_refl _) (by simp; omega)⟩
        case measure => simp [intOf]; omega
      · obtain rfl : i = la := by omega
        obtain rfl : k = lb := by omega
        have hP : P = pairsOf a b := by have := Htr.out; rw [List.drop_of_length_le (by rw [Hla.out]; exact Nat.le_refl _), List.drop_of_length_le (by rw [Hlb.out]; exact Nat.le_refl _), tr_done, List.append_nil] at this; exact this
        obtain ⟨p0, p4⟩ := Htab.out.at Hbr.out 0 0 (Nat.zero_le _) (Nat.zero_le _)
        rw [show Dat a b 0 0 = D a b from rfl] at p4
        obtain ⟨R0, hR0⟩ : ∃ R0, R0 = w.heap.size + 1 + (i - 0) := ⟨_, rfl⟩
        rw [← hR0] at p0 p4
        clear hR0
        have HP := hid hP; clear hP
        have r1 : (0 : Int) < (i : Int) + 1 := by omega
        have r2 : (0 : Int) < (k : Int) + 1 := by omega
        have hd1 : decide ((i : Int) < i) = false := by simp
        have hd2 : decide ((k : Int) < k) = false := by simp
        go_wp2_with fail
        go_quiet (fail)
        go_wp2
        go_ret2
        exact ⟨_, rfl, by rw [← HP.out]; exact own_base hown HB.out.size, HB.out.trans ((below_dr Hbr.out _).mono HB.out.size)⟩
end Go.Proofs.Ytoljnbbhoeloeaa
