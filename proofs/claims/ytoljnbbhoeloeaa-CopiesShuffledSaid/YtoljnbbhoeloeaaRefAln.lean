/- WALK: the reference's costs and align. -/
import Derived.Test.YtoljnbbhoeloeaaAlnW
namespace Go.Proofs.Ytoljnbbhoeloeaa
open Go.RowKit
theorem TabIn.put' {w : World} {B : Nat} {a b : List Int} {la lb i s R : Nat} {v : Int} (h : TabIn w B a b la lb i (s + 1)) (hi : i ≤ la) (hR : R = B + 1 + (la - i)) (hv : v = (Dat a b i s : Nat)) : TabIn (w.setCell ⟨R, s, none⟩ (.int .i64 v)) B a b la lb i s := by
  subst hR; subst hv; exact h.put hi
theorem TabIn.drewN {w : World} {B : Nat} {a b : List Int} {la lb i s : Nat} (h : TabIn w B a b la lb i s) (n : Nat) : TabIn (w.drewN n) B a b la lb i s := ⟨h.top, h.rows, h.cur⟩
theorem pair_any (x y : Int) (w : World) : Calls Try.prog 82 #[.int .i64 x, .int .i64 y] w fun e w' => e = .returned (.int .i64 (bc x y : Nat)) ∧ w = w' := by
  by_cases h : x = y
  · subst h
    go_enter Try.func82, Try.ntmps82
    go_wp2
    go_ret
    exact ⟨by simp [bc], rfl⟩
  · go_enter Try.func82, Try.ntmps82
    go_wp2
    go_ret
    exact ⟨by simp [bc, h], rfl⟩
theorem pair_at {x y : Int} {u : Nat} (h : bc x y = u) (w : World) : Calls Try.prog 82 #[.int .i64 x, .int .i64 y] w fun e w' => e = .returned (.int .i64 (u : Nat)) ∧ w' = w :=
  (pair_any x y w).mono fun _ _ ⟨h1, h2⟩ => ⟨by rw [h1, h], h2.symm⟩
set_option maxRecDepth 100000 in
set_option maxHeartbeats 1000000 in
theorem costs_any (a b : List Int) (Aa Ab : Option Addr) (ca cb : Nat) (ha : a.length ≤ 60) (hb : b.length ≤ 60) (w : World) (ra : Rd w w.heap.size Aa a) (rb : Rd w w.heap.size Ab b) :
    Calls Try.prog 81 #[.slice Aa a.length ca, .slice Ab b.length cb] w fun e w' => e = .returned (.slice (some ⟨w.heap.size, 0, none⟩) (a.length + 1) (a.length + 1)) ∧ Tab w' w.heap.size a b a.length b.length 0 ∧ Below w.heap.size w w' := by
  obtain ⟨la, hla⟩ : ∃ la, la = a.length := ⟨_, rfl⟩
  obtain ⟨lb, hlb⟩ : ∃ lb, lb = b.length := ⟨_, rfl⟩
  rw [← hla, ← hlb]
  rw [← hla] at ha
  rw [← hlb] at hb
  have Hla := hid hla; have Hlb := hid hlb; clear hla hlb
  have hmk : ∀ W, (Instr.makeSlice 23 (.int .i64 ((la : Int) + 1)) (.int .i64 ((la : Int) + 1))).run Try.prog W = .ok (.slice (some ⟨W.heap.size, 0, none⟩) (la + 1) (la + 1)) (W.alloc (.cells (madeCells #[.slice none 0 0] (la + 1)) 22)) := fun W => by
    have := run_make_row' (P := Try.prog) 23 22 (.slice none 0 0) 24 Try.underlying23 Try.infoRow rfl .i64 .i64 (la + 1) (by omega) (by omega) W
    simpa using this
  have hmk2 : ∀ W, (Instr.makeSlice 22 (.int .i64 ((lb : Int) + 1)) (.int .i64 ((lb : Int) + 1))).run Try.prog W = .ok (.slice (some ⟨W.heap.size, 0, none⟩) (lb + 1) (lb + 1)) (W.alloc (.cells (madeCells #[.int .i64 0] (lb + 1)) 3)) := fun W => by
    have := run_make_row' (P := Try.prog) 22 3 (.int .i64 0) 8 Try.underlying22 Try.infoInt rfl .i64 .i64 (lb + 1) (by omega) (by omega) W
    simpa using this
  go_enter Try.func81, Try.ntmps81
  go_wp2_with fail
  go_loopw [6, 7, 8] (fun i k best wr => ∃ r : Nat, r ≤ la + 1 ∧ i = .int .i64 ((r : Int) - 1) ∧ wr.heap.size = w.heap.size + 1 + (la + 1 - r) ∧ Tab wr w.heap.size a b la lb r ∧ Below w.heap.size w wr) (fun i _ _ _ => (intOf i + 1).toNat)
  case atStart => exact ⟨la + 1, Nat.le_refl _, by go_num, by simp, Tab.start w a b la lb, (Below.refl _ _).alloc (Nat.le_refl _) _⟩
  case round =>
    obtain ⟨r, hr, rfl, hsz, htab, hbel⟩ := hrel
    obtain ⟨wo, rfl⟩ : ∃ wo : World, wo = wr := ⟨_, rfl⟩
    cases r with
    | zero =>
      rw [show (((0 : Nat) : Int) - 1) = -1 from rfl]
      have HB := hid hbel; have Htab := hid htab; have Hsz := hid hsz; clear hbel htab hsz hmk hmk2
      go_wp2
      go_ret
      exact ⟨rfl, Htab.out, HB.out⟩
    | succ i =>
      rw [show (((i + 1 : Nat) : Int) - 1) = (i : Int) by omega]
      have hsz1 : wo.heap.size = w.heap.size + 1 + (la - i) := by omega
      have hT := htab.row (by omega) hsz1
      have t1 : wo.cell? ⟨w.heap.size, i, none⟩ = some (.slice none 0 0) := by rw [htab.top.cell (by omega), if_neg (by omega)]
      have t2 : wo.frozen? ⟨w.heap.size, i, none⟩ = false := htab.top.frozen i
      have t3 : w.heap.size < wo.heap.size := by omega
      have HT := hid hT; clear hT
      have Hsz := hid hsz; have Hsz1 := hid hsz1; clear hsz hsz1
      go_wp2_with fail
      clear hmk hmk2
      go_loopw [7, 8] (fun k best wr => ∃ q : Nat, q ≤ lb + 1 ∧ k = .int .i64 ((q : Int) - 1) ∧ wr.heap.size = w.heap.size + 1 + (la + 1 - i) ∧ TabIn wr w.heap.size a b la lb i q ∧ Below w.heap.size w wr) (fun k _ _ => (intOf k + 1).toNat)
      case atStart => exact ⟨lb + 1, Nat.le_refl _, by go_num, by simp [World.setCell, Hsz1.out]; omega, HT.out, (hbel.setCell (by simp) _).alloc (by simp [World.setCell]; omega) _⟩
      case round =>
        obtain ⟨q, hq, rfl, hsz, htab, hbel⟩ := hrel
        have Hsz2 := hid hsz; clear hsz
        have Htab := hid htab; clear htab t1 t2 t3
        cases q with
        | zero =>
          go_wp2_with fail
          go_roundw
          case rel => exact ⟨i, by omega, by go_num, by rw [Hsz2.out], Htab.out.done, hbel⟩
          case measure => simp [intOf]
        | succ k =>
          rw [show (((k + 1 : Nat) : Int) - 1) = (k : Int) by omega]
          obtain ⟨o1, o2, o3⟩ := Htab.out.own (by omega) (by omega)
          obtain ⟨R0, hR0⟩ : ∃ R0, R0 = w.heap.size + 1 + (la - i) := ⟨_, rfl⟩
          rw [← hR0] at o1 o2 o3
          have HR0 := hid hR0; clear hR0
          have hx1 := Dat_last a b k la (by rw [Hla.out]; exact Nat.le_refl _)
          have hx2 := Dat_end a b i lb (by rw [Hlb.out]; exact Nat.le_refl _)
          rw [← Hlb.out] at hx1
          rw [← Hla.out] at hx2
          have Hx1 := hid hx1; have Hx2 := hid hx2; clear hx1 hx2
          by_cases hi : la = i
          · subst hi
            by_cases hk : lb = k
            · subst hk
              have d1 : decide ((la : Int) < la) = false := by simp
              have d2 : decide ((lb : Int) < lb) = false := by simp
              have hv : (2 * ((la : Int) - la + lb - lb)) = (Dat a b la lb : Nat) := by rw [Hx1.out]; omega
              have Hv := hid hv; clear hv
              go_wp2_with fail
              go_roundw
              case rel => exact ⟨lb, by omega, by go_num, by simpa [World.setCell] using Hsz2.out, by rw [show (Value.int .i64 0) = .int .i64 (Dat a b la lb : Nat) by rw [Hx1.out]; simp, HR0.out]; exact Htab.out.put (by omega), hbel.setCell (by first | (simp [HR0.out]; done) | (simp [HR0.out]; omega)) _⟩
              case measure => simp [intOf]
            · have o4 : wr.cell? ⟨R0, k + 1, none⟩ = some (.int .i64 (Dat a b la (k + 1))) := by rw [HR0.out]; have := Htab.out.cur.cell (i := k + 1) (by omega); rwa [if_pos (Nat.le_refl _)] at this
              obtain ⟨z, hz⟩ : ∃ z, z = Dat a b la (k + 1) := ⟨_, rfl⟩
              rw [← hz] at o4
              have hzz : z = 2 * (lb - (k + 1)) := by rw [hz, Dat_last a b (k + 1) la (by rw [Hla.out]; exact Nat.le_refl _), ← Hlb.out]
              have hz2 : z ≤ 120 := by omega
              have Hzz := hid hzz; clear hz hzz
              have d1 : decide ((la : Int) < la) = false := by simp
              have r5 : (k : Int) + 1 < (lb : Int) + 1 := by omega
              have r7 : ((k : Int) + 1).toNat = k + 1 := by omega
              have hval : (if 2 + (z : Int) < 2 * ((la : Int) - la + lb - k) then 2 + (z : Int) else 2 * ((la : Int) - la + lb - k)) = (Dat a b la k : Nat) := by
                have := Hzz.out
                rw [Dat_last a b k la (by rw [Hla.out]; exact Nat.le_refl _), ← Hlb.out]; split <;> omega
              have Hval := hid hval; clear hval
              go_wp2_with fail
              go_roundw
              case rel =>
                refine ⟨k, by omega, by go_num, by simpa [World.setCell] using Hsz2.out, ?_, ?_⟩
                · have h1 := Htab.out.put (by omega)
                  rw [← Hval.out, ← HR0.out] at h1
                  simpa using h1
                · have h1 := hbel.setCell (p := ⟨R0, k, none⟩) (by first | (simp [HR0.out]; done) | (simp [HR0.out]; omega)) (.int .i64 (if 2 + (z : Int) < 2 * ((la : Int) - la + lb - k) then 2 + (z : Int) else 2 * ((la : Int) - la + lb - k)))
                  simpa using h1
              case measure => simp [intOf]
          · have hil : i < la := by omega
            obtain ⟨R1, hR1⟩ : ∃ R1, R1 = w.heap.size + 1 + (la - (i + 1)) := ⟨_, rfl⟩
            have p1 : wr.cell? ⟨w.heap.size, i + 1, none⟩ = some (.slice (some ⟨R1, 0, none⟩) (lb + 1) (lb + 1)) := by rw [Htab.out.top.cell (by omega), if_pos (by omega), hR1]
            have p3 : wr.cell? ⟨R1, k, none⟩ = some (.int .i64 (Dat a b (i + 1) k)) := by rw [hR1]; exact (Htab.out.rows (i + 1) (Nat.le_refl _) hil).cell (by omega)
            have p2 : k < lb → wr.cell? ⟨R1, k + 1, none⟩ = some (.int .i64 (Dat a b (i + 1) (k + 1))) := fun hk => by rw [hR1]; exact (Htab.out.rows (i + 1) (Nat.le_refl _) hil).cell (by omega)
            have HR1 := hid hR1; clear hR1
            have d2 := Dat_le a b (i + 1) k
            rw [← Hla.out, ← Hlb.out] at d2
            have dd2 : Dat a b (i + 1) k ≤ 2 * (la - (i + 1) + (lb - k)) := by
              have := D_le (a.drop (i + 1)) (b.drop k)
              rw [List.length_drop, List.length_drop, ← Hla.out, ← Hlb.out] at this
              exact this
            obtain ⟨y, hy⟩ : ∃ y, y = Dat a b (i + 1) k := ⟨_, rfl⟩
            rw [← hy] at p3 d2 dd2
            have Hy := hid hy; clear hy
            have hne : ((i : Int) == (la : Int)) = false := by simp; omega
            have r1 : IntKind.i64.wrap ((i : Int) + 1) = (i : Int) + 1 := IntWalk.i64_in _ (by omega)
            have r3 : (0 : Int) ≤ (i : Int) + 1 := by omega
            have r5 : (i : Int) + 1 < (la : Int) + 1 := by omega
            have r7 : ((i : Int) + 1).toNat = i + 1 := by omega
            have r11 : (i : Int) < (la : Int) := by omega
            by_cases hk : lb = k
            · subst hk
              clear p2
              have dz : decide ((lb : Int) < lb) = false := by simp
              have hval : (if 2 + (y : Int) < 2 * ((la : Int) - i + lb - lb) then 2 + (y : Int) else 2 * ((la : Int) - i + lb - lb)) = (Dat a b i lb : Nat) := by
                have := Hy.out
                rw [Dat_end a b (i + 1) lb (by rw [Hlb.out]; exact Nat.le_refl _), ← Hla.out] at this
                rw [Hx2.out]; split <;> omega
              have Hval := hid hval; clear hval
              go_wp2_with fail
              go_roundw
              case rel =>
                refine ⟨lb, by omega, by go_num, by simpa [World.setCell] using Hsz2.out, ?_, ?_⟩
                · have h1 := Htab.out.put (by omega)
                  rw [← Hval.out, ← HR0.out] at h1
                  simpa using h1
                · have h1 := hbel.setCell (p := ⟨R0, lb, none⟩) (by first | (simp [HR0.out]; done) | (simp [HR0.out]; omega)) (.int .i64 (if 2 + (y : Int) < 2 * ((la : Int) - i + lb - lb) then 2 + (y : Int) else 2 * ((la : Int) - i + lb - lb)))
                  simpa using h1
              case measure => simp [intOf]
            · have hkl : k < lb := by omega
              have p2' := p2 hkl
              clear p2
              have o4 : wr.cell? ⟨R0, k + 1, none⟩ = some (.int .i64 (Dat a b i (k + 1))) := by rw [HR0.out]; have := Htab.out.cur.cell (i := k + 1) (by omega); rwa [if_pos (Nat.le_refl _)] at this
              have d1 := Dat_le a b (i + 1) (k + 1)
              have d3 := Dat_le a b i (k + 1)
              rw [← Hla.out, ← Hlb.out] at d1 d3
              have hst : Dat a b i k = min (min (bc (nth a i) (nth b k) + Dat a b (i + 1) (k + 1)) (2 + Dat a b (i + 1) k)) (2 + Dat a b i (k + 1)) := Dat_step a b i k (by rw [← Hla.out]; exact hil) (by rw [← Hlb.out]; exact hkl)
              obtain ⟨x, hx⟩ : ∃ x, x = Dat a b (i + 1) (k + 1) := ⟨_, rfl⟩
              obtain ⟨z, hz⟩ : ∃ z, z = Dat a b i (k + 1) := ⟨_, rfl⟩
              obtain ⟨u, hu⟩ : ∃ u, bc (nth a i) (nth b k) = u := ⟨_, rfl⟩
              have d4 := bc_le (nth a i) (nth b k)
              rw [← hx] at d1 p2' hst
              rw [← hz] at d3 o4 hst
              rw [← Hy.out, hu] at hst
              rw [hu] at d4
              have Hst := hid hst; have Hu := hid hu; clear hst hx hz hu
              obtain ⟨ba, oa, rfl, hba, hca⟩ := ra.at (by rw [← Hla.out]; omega)
              obtain ⟨bb, ob, rfl, hbb, hcb⟩ := rb.at (by rw [← Hlb.out]; omega)
              have p5 : wr.cell? ⟨ba, oa + i, none⟩ = some (.int .i64 (nth a i)) := (hbel.cell (p := ⟨ba, oa + i, none⟩) hba).trans (hca i (by rw [← Hla.out]; exact hil))
              have p6 : wr.cell? ⟨bb, ob + k, none⟩ = some (.int .i64 (nth b k)) := (hbel.cell (p := ⟨bb, ob + k, none⟩) hbb).trans (hcb k (by rw [← Hlb.out]; exact hkl))
              clear hca hcb
              have hne2 : ((k : Int) == (lb : Int)) = false := by simp; omega
              have r2 : IntKind.i64.wrap ((k : Int) + 1) = (k : Int) + 1 := IntWalk.i64_in _ (by omega)
              have r4 : (0 : Int) ≤ (k : Int) + 1 := by omega
              have r6 : (k : Int) + 1 < (lb : Int) + 1 := by omega
              have r8 : ((k : Int) + 1).toNat = k + 1 := by omega
              have r12 : (k : Int) < (lb : Int) := by omega
              have r13 : IntKind.i64.wrap ((u : Int) + x) = (u : Int) + x := IntWalk.i64_in _ (by omega)
              have Hbel := hid hbel; clear hbel ra rb
              have Hdd := hid (And.intro dd2 d4); clear dd2 d4
              go_wp2_with fail
              all_goals
                go_quiet ((go_at_call 82; exact Calls.quiet_of_same (pair_at Hu.out _)))
                go_wp2_with fail
                go_roundw
                case rel =>
                  refine ⟨k, by omega, by go_num, by simpa [World.setCell] using Hsz2.out, (Htab.out.drewN nq).put' (by omega) HR0.out ?_, (below_dr Hbel.out nq).setCell (by rw [HR0.out]; simp; omega) _⟩
                  obtain ⟨dd2, d4⟩ := Hdd.out
                  rw [Hst.out]
                  (repeat' split) <;> omega
                case measure => simp [intOf]
end Go.Proofs.Ytoljnbbhoeloeaa
