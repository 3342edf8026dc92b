/- WALK: wall.align. -/
import Derived.Test.YtaoddenadfmdbaaEtdW
import Derived.Test.YtaoddenadfmdbaaTbM
namespace Go.Proofs.Ytaoddenadfmdbaa
open Go.RowKit
theorem differ_at {x y : Int} {u : Nat} (h : df x y = u) (w : World) : Calls Try.prog 71 #[.int .i64 x, .int .i64 y] w fun e w' => e = .returned (.int .i64 (u : Nat)) ∧ w' = w :=
  (differ_any x y w).mono fun _ _ ⟨h1, h2⟩ => ⟨by rw [h1, h], h2⟩
theorem differ_at2 {x y : Int} {u : Nat} (h : u = df x y) (w : World) : Calls Try.prog 71 #[.int .i64 x, .int .i64 y] w fun e w' => e = .returned (.int .i64 (u : Nat)) ∧ w = w' :=
  (differ_any x y w).mono fun _ _ ⟨h1, h2⟩ => ⟨by rw [h1, h], h2.symm⟩
set_option maxRecDepth 100000 in
set_option maxHeartbeats 1000000 in
theorem walign_any (par line : List Int) (Ap Al : Option Addr) (cp cl : Nat) (hp : par.length ≤ 100) (hl : line.length ≤ 100) (w : World) (rp : Rd w w.heap.size Ap par) (rl : Rd w w.heap.size Al line) :
    Calls Try.prog 62 #[.slice Ap par.length cp, .slice Al line.length cl] w fun e w' => (∃ g : Nat, w.heap.size ≤ g ∧ e = .returned (.tuple #[.int .i64 (ED line par : Nat), .slice (some ⟨g, 0, none⟩) line.length line.length]) ∧ ∀ i, i < line.length → ∃ x : Int, w'.cell? ⟨g, i, none⟩ = some (.int .i64 x) ∧ (x = -1 ∨ 0 ≤ x ∧ x < par.length)) ∧ Below w.heap.size w w' := by
  obtain ⟨la, hla⟩ : ∃ la, la = line.length := ⟨_, rfl⟩
  obtain ⟨lb, hlb⟩ : ∃ lb, lb = par.length := ⟨_, rfl⟩
  rw [← hla, ← hlb]
  rw [← hla] at hl
  rw [← hlb] at hp
  have Hla := hid hla; have Hlb := hid hlb; clear hla hlb
  obtain ⟨F, hF⟩ : ∃ F, F = Eat line par := ⟨_, rfl⟩
  have HFB : Hid (∀ i k, F i k ≤ la + lb) := hid fun i k => by rw [hF, Hla.out, Hlb.out]; exact Eat_le line par i k
  have HFL : Hid (∀ k, F la k = lb - k) := hid fun k => by rw [hF, Hla.out, Hlb.out]; exact Eat_last line par k _ (Nat.le_refl _)
  have HFE : Hid (∀ i, F i lb = la - i) := hid fun i => by rw [hF, Hla.out, Hlb.out]; exact Eat_end line par i _ (Nat.le_refl _)
  have HFS : Hid (∀ i k, i < la → k < lb → F i k = min (min (df (nth line i) (nth par k) + F (i + 1) (k + 1)) (1 + F (i + 1) k)) (1 + F i (k + 1))) := hid fun i k h1 h2 => by
    rw [hF]
    exact Eat_step line par i k (by rw [← Hla.out]; exact h1) (by rw [← Hlb.out]; exact h2)
  have HF0 : Hid (F 0 0 = ED line par) := hid (by rw [hF]; rfl)
  clear hF
  have hmk : ∀ W, (Instr.makeSlice 43 (.int .i64 ((la : Int) + 1)) (.int .i64 ((la : Int) + 1))).run Try.prog W = .ok (.slice (some ⟨W.heap.size, 0, none⟩) (la + 1) (la + 1)) (W.alloc (.cells (madeCells #[.slice none 0 0] (la + 1)) 26)) := fun W => by
    have := run_make_row' (P := Try.prog) 43 26 (.slice none 0 0) 24 Try.underlying43 Try.infoIntRow rfl .i64 .i64 (la + 1) (by omega) (by omega) W
    simpa using this
  have hmk2 : ∀ W, (Instr.makeSlice 26 (.int .i64 ((lb : Int) + 1)) (.int .i64 ((lb : Int) + 1))).run Try.prog W = .ok (.slice (some ⟨W.heap.size, 0, none⟩) (lb + 1) (lb + 1)) (W.alloc (.cells (madeCells #[.int .i64 0] (lb + 1)) 3)) := fun W => by
    have := run_make_row' (P := Try.prog) 26 3 (.int .i64 0) 8 Try.underlying26 Try.infoInt rfl .i64 .i64 (lb + 1) (by omega) (by omega) W
    simpa using this
  go_enter Try.func62, Try.ntmps62
  go_wp2_with fail
  go_loopw [7, 8] (fun i k wr => ∃ r : Nat, r ≤ la + 1 ∧ i = .int .i64 ((r : Int) - 1) ∧ wr.heap.size = w.heap.size + 1 + (la + 1 - r) ∧ TabF wr w.heap.size F la lb r ∧ Below w.heap.size w wr) (fun i _ _ => (intOf i + 1).toNat)
  case atStart => exact ⟨la + 1, Nat.le_refl _, by go_num, by simp, TabF.start w F la lb, (Below.refl _ _).alloc (Nat.le_refl _) _⟩
  case round =>
    obtain ⟨r, hr, rfl, hsz, htab, hbel⟩ := hrel
    obtain ⟨wo, rfl⟩ : ∃ wo : World, wo = wr := ⟨_, rfl⟩
    cases r with
    | zero =>
      rw [show (((0 : Nat) : Int) - 1) = -1 from rfl]
      have HB := hid hbel; have Htab := hid htab; have Hsz := hid hsz; clear hbel htab hsz hmk hmk2
      have hmk3 : ∀ W, (Instr.makeSlice 26 (.int .i64 (la : Int)) (.int .i64 (la : Int))).run Try.prog W = .ok (.slice (some ⟨W.heap.size, 0, none⟩) la la) (W.alloc (.cells (madeCells #[.int .i64 0] la) 3)) := fun W => by
        have := run_make_row' (P := Try.prog) 26 3 (.int .i64 0) 8 Try.underlying26 Try.infoInt rfl .i64 .i64 la (by omega) (by omega) W
        simpa using this
      obtain ⟨g, hg⟩ : ∃ g, g = wo.heap.size := ⟨_, rfl⟩
      have HP0 := hid (show (wo.alloc (.cells (madeCells #[.int .i64 0] la) 3)).rowIs g 3 la (fun x => .int .i64 ((fun _ => (0 : Int)) x)) by rw [hg]; exact World.rowIs_made wo (.int .i64 0) la 3)
      have HB0 := hid (show Below wo.heap.size wo (wo.alloc (.cells (madeCells #[.int .i64 0] la) 3)) from (Below.refl _ _).alloc (Nat.le_refl _) _)
      go_upto_region 15 with (fail)
      rw [← hg]
      have HG := hid hg
      clear hg hmk3
      go_wp2_with fail
      go_loopw [10, 115] (fun v10 iv wr => ∃ (i j : Nat) (P : Nat → Int), i ≤ la ∧ j ≤ lb ∧ v10 = .int .i64 (j : Int) ∧ iv = .int .i64 (i : Int) ∧ Hid (wr.rowIs g 3 la (fun x => .int .i64 (P x))) ∧ Hid (∀ x, x < i → P x = -1 ∨ 0 ≤ P x ∧ P x < lb) ∧ Hid (Below wo.heap.size wo wr)) (fun _ iv _ => la - (intOf iv).toNat)
      case atStart => exact ⟨0, 0, fun _ => 0, by omega, by omega, rfl, rfl, HP0, hid fun x h => by omega, HB0⟩
      case round =>
        obtain ⟨i, j, P, hi, hj, rfl, rfl, hP, hok, hB⟩ := hrel
        by_cases him : i < la
        · have q0 : (i : Int) < (la : Int) := by omega
          have s1 := hP.out.cell him
          have s2 := hP.out.frozen i
          have HP1 := hid (show (wr.setCell ⟨g, i, none⟩ (.int .i64 (-1))).rowIs g 3 la (fun x => .int .i64 ((fun y => if y = i then (-1 : Int) else P y) x)) from (hP.out.set i _).congr fun x _ => by dsimp only; split <;> rfl)
          have HB1 := hid (show Below wo.heap.size wo (wr.setCell ⟨g, i, none⟩ (.int .i64 (-1))) from hB.out.setCell (p := ⟨g, i, none⟩) (by rw [HG.out]; exact Nat.le_refl _) _)
          go_upto_region 20 with (fail)
          obtain ⟨w1, hw1⟩ : ∃ W, W = wr.setCell ⟨g, i, none⟩ (.int .i64 (-1)) := ⟨_, rfl⟩
          rw [← hw1] at HP1 HB1 ⊢
          clear hw1 s1 s2
          go_wp2_with fail
          have HOK := hok
          clear hP hB hok
          go_loopw [10, 12] (fun jv kv wr => ∃ k : Nat, j ≤ k ∧ k ≤ lb ∧ jv = .int .i64 (j : Int) ∧ kv = .int .i64 (k : Int) ∧ Hid (wr.rowIs g 3 la (fun x => .int .i64 ((fun y => if y = i then (-1 : Int) else P y) x))) ∧ Hid (Below wo.heap.size wo wr)) (fun _ kv _ => lb - (intOf kv).toNat)
          case atStart => exact ⟨j, by omega, hj, rfl, rfl, HP1, HB1⟩
          case round =>
            obtain ⟨k, hjk, hk, rfl, rfl, hP, hB⟩ := hrel
            by_cases hkm : k < lb
            · have q1 : (k : Int) < (lb : Int) := by omega
              obtain ⟨p0, p4⟩ := Htab.out.at hB.out i j hi hj
              obtain ⟨p1, p3⟩ := Htab.out.at hB.out (i + 1) (k + 1) (by omega) (by omega)
              obtain ⟨X, hX⟩ : ∃ X, X = F i j := ⟨_, rfl⟩
              obtain ⟨x, hx⟩ : ∃ x, x = F (i + 1) (k + 1) := ⟨_, rfl⟩
              have b1 := HFB.out i j
              have b2 := HFB.out (i + 1) (k + 1)
              obtain ⟨R0, hR0⟩ : ∃ R0, R0 = w.heap.size + 1 + (la - i) := ⟨_, rfl⟩
              obtain ⟨R1, hR1⟩ : ∃ R1, R1 = w.heap.size + 1 + (la - (i + 1)) := ⟨_, rfl⟩
              rw [← hR0] at p0 p4; rw [← hR1] at p1 p3
              rw [← hX] at p4 b1; rw [← hx] at p3 b2
              obtain ⟨ba, oa, rfl, hba, hca⟩ := rl.at (by rw [← Hla.out]; omega)
              obtain ⟨bb, ob, rfl, hbb, hcb⟩ := rp.at (by rw [← Hlb.out]; omega)
              have hbw := HB.out.trans (hB.out.mono HB.out.size)
              have p5 : wr.cell? ⟨ba, oa + i, none⟩ = some (.int .i64 (nth line i)) := (hbw.cell (p := ⟨ba, oa + i, none⟩) hba).trans (hca i (by rw [← Hla.out]; exact him))
              have p6 : wr.cell? ⟨bb, ob + k, none⟩ = some (.int .i64 (nth par k)) := (hbw.cell (p := ⟨bb, ob + k, none⟩) hbb).trans (hcb k (by rw [← Hlb.out]; exact hkm))
              obtain ⟨u, hu⟩ : ∃ u, df (nth line i) (nth par k) = u := ⟨_, rfl⟩
              have b3 := df_le (nth line i) (nth par k)
              rw [hu] at b3
              have Hu := hid hu
              have r1 : IntKind.i64.wrap ((k : Int) - (j : Int)) = (k : Int) - (j : Int) := IntWalk.i64_in _ (by omega)
              have r2 : IntKind.i64.wrap ((k : Int) - (j : Int) + (u : Int)) = (k : Int) - (j : Int) + (u : Int) := IntWalk.i64_in _ (by omega)
              have r3 : IntKind.i64.wrap ((k : Int) - (j : Int) + (u : Int) + (x : Int)) = (k : Int) - (j : Int) + (u : Int) + (x : Int) := IntWalk.i64_in _ (by omega)
              have r4 : IntKind.i64.wrap ((i : Int) + 1) = (i : Int) + 1 := IntWalk.i64_in _ (by omega)
              have r5 : IntKind.i64.wrap ((k : Int) + 1) = (k : Int) + 1 := IntWalk.i64_in _ (by omega)
              have r6 : (i : Int) + 1 < (la : Int) + 1 := by omega
              have r7 : (k : Int) + 1 < (lb : Int) + 1 := by omega
              have r8 : (i : Int) < (la : Int) + 1 := by omega
              have r9 : (j : Int) < (lb : Int) + 1 := by omega
              have r10 : (0 : Int) ≤ (i : Int) + 1 := by omega
              have r11 : (0 : Int) ≤ (k : Int) + 1 := by omega
              clear hu hR0 hR1 hX hx hca hcb hbw b1 b2 b3
              by_cases hE : (k : Int) - (j : Int) + (u : Int) + (x : Int) = (X : Int)
              · have e1 : ((k : Int) - (j : Int) + (u : Int) + (x : Int) == (X : Int)) = true := by simp [hE]
                have s1 := hP.out.cell him
                have s2 := hP.out.frozen i
                have HP3 := hid (show ∀ q, (((wr.drewN q).setCell ⟨g, i, none⟩ (.int .i64 (k : Int)))).rowIs g 3 la (fun x => .int .i64 ((fun y => if y = i then (k : Int) else P y) x)) from fun q => (((hP.out.of_block (w' := wr.drewN q) rfl).set i _).congr fun x _ => by dsimp only; split <;> rfl))
                have HB3 := hid (show ∀ q, Below wo.heap.size wo ((wr.drewN q).setCell ⟨g, i, none⟩ (.int .i64 (k : Int))) from fun q => (below_drewN hB.out q).setCell (p := ⟨g, i, none⟩) (by rw [HG.out]; exact Nat.le_refl _) _)
                have HOK2 := hid (show ∀ x, x < i + 1 → (fun y => if y = i then (k : Int) else P y) x = -1 ∨ 0 ≤ (fun y => if y = i then (k : Int) else P y) x ∧ (fun y => if y = i then (k : Int) else P y) x < lb from fun x hx => by
                  dsimp only
                  by_cases e : x = i
                  · rw [if_pos e]; exact .inr ⟨by omega, by omega⟩
                  · rw [if_neg e]; exact HOK.out x (by omega))
                clear hE
                go_upto_region 23 with (fail)
                go_quiet ((go_at_call 71; exact Calls.quiet_of_same (differ_at Hu.out _)))
                have s1' : (wr.drewN nq).cell? ⟨g, i, none⟩ = _ := s1
                have s2' : (wr.drewN nq).frozen? ⟨g, i, none⟩ = false := s2
                go_wp2_with fail
                go_roundw
                case rel => exact ⟨i + 1, k + 1, _, by omega, by omega, by go_num, by go_num, hid (HP3.out _), HOK2, hid (HB3.out _)⟩
                case measure => simp [intOf]; omega
              · have e1 : ((k : Int) - (j : Int) + (u : Int) + (x : Int) == (X : Int)) = false := by simp [hE]
                clear hE
                go_upto_region 23 with (fail)
                go_quiet ((go_at_call 71; exact Calls.quiet_of_same (differ_at Hu.out _)))
                go_wp2_with fail
                go_roundw
                case rel => exact ⟨k + 1, by omega, by omega, rfl, by go_num, hid (hP.out.of_block rfl), hid (below_drewN hB.out _)⟩
                case measure => simp [intOf]; omega
            · obtain rfl : k = lb := by omega
              have q1 : decide ((k : Int) < (k : Int)) = false := by simp
              have HOK2 := hid (show ∀ x, x < i + 1 → (fun y => if y = i then (-1 : Int) else P y) x = -1 ∨ 0 ≤ (fun y => if y = i then (-1 : Int) else P y) x ∧ (fun y => if y = i then (-1 : Int) else P y) x < k from fun x hx => by
                dsimp only
                by_cases e : x = i
                · rw [if_pos e]; exact .inl rfl
                · rw [if_neg e]; exact HOK.out x (by omega))
              go_wp2_with fail
              go_roundw
              case rel => exact ⟨i + 1, j, _, by omega, by omega, rfl, by go_num, hP, HOK2, hB⟩
              case measure => simp [intOf]; omega
        · obtain rfl : i = la := by omega
          have q0 : decide ((i : Int) < (i : Int)) = false := by simp
          obtain ⟨p0, p4⟩ := Htab.out.at hB.out 0 0 (Nat.zero_le _) (Nat.zero_le _)
          rw [HF0.out] at p4
          obtain ⟨R0, hR0⟩ : ∃ R0, R0 = w.heap.size + 1 + (i - 0) := ⟨_, rfl⟩
          rw [← hR0] at p0 p4
          have r1 : (0 : Int) < (i : Int) + 1 := by omega
          have r2 : (0 : Int) < (lb : Int) + 1 := by omega
          clear hR0
          go_wp2_with fail
          go_ret2
          exact ⟨⟨g, by rw [HG.out]; exact HB.out.size, rfl, fun x hx => ⟨P x, hP.out.cell hx, hok.out x hx⟩⟩, HB.out.trans (hB.out.mono HB.out.size)⟩
    | succ i =>
      rw [show (((i + 1 : Nat) : Int) - 1) = (i : Int) by omega]
      have hsz1 : wo.heap.size = w.heap.size + 1 + (la - i) := by omega
      have hT := htab.row (by omega) hsz1
      have t1 : wo.cell? ⟨w.heap.size, i, none⟩ = some (.slice none 0 0) := by rw [htab.top.cell (by omega), if_neg (by omega)]
      have t2 : wo.frozen? ⟨w.heap.size, i, none⟩ = false := htab.top.frozen i
      have t3 : w.heap.size < wo.heap.size := by omega
      have HT := hid hT; clear hT
      have Hsz := hid hsz; have Hsz1 := hid hsz1; clear hsz hsz1
      go_wp2_with fail
      clear hmk hmk2
      go_loopw [8] (fun k wr => ∃ q : Nat, q ≤ lb + 1 ∧ k = .int .i64 ((q : Int) - 1) ∧ wr.heap.size = w.heap.size + 1 + (la + 1 - i) ∧ TabFI wr w.heap.size F la lb i q ∧ Below w.heap.size w wr) (fun k _ => (intOf k + 1).toNat)
      case atStart => exact ⟨lb + 1, Nat.le_refl _, by go_num, by simp [World.setCell, Hsz1.out]; omega, HT.out, (hbel.setCell (by simp) _).alloc (by simp [World.setCell]; omega) _⟩
      case round =>
        obtain ⟨q, hq, rfl, hsz, htab, hbel⟩ := hrel
        have Hsz2 := hid hsz; clear hsz
        have Htab := hid htab; clear htab t1 t2 t3
        cases q with
        | zero =>
          go_wp2_with fail
          go_roundw
          case rel => exact ⟨i, by omega, by go_num, by rw [Hsz2.out], Htab.out.done, hbel⟩
          case measure => simp [intOf]
        | succ k =>
          rw [show (((k + 1 : Nat) : Int) - 1) = (k : Int) by omega]
          obtain ⟨o1, o2, o3⟩ := Htab.out.own (by omega) (by omega)
          obtain ⟨R0, hR0⟩ : ∃ R0, R0 = w.heap.size + 1 + (la - i) := ⟨_, rfl⟩
          rw [← hR0] at o1 o2 o3
          have HR0 := hid hR0; clear hR0
          by_cases hi : la = i
          · subst hi
            have hv : ((lb : Int) - k) = (F la k : Nat) := by rw [HFL.out k]; omega
            have Hv := hid hv; clear hv
            go_wp2_with fail
            go_roundw
            case rel => exact ⟨k, by omega, by go_num, by simpa [World.setCell] using Hsz2.out, by rw [Hv.out, HR0.out]; exact Htab.out.put (by omega), hbel.setCell (by first | (simp [HR0.out]; done) | (simp [HR0.out]; omega)) _⟩
            case measure => simp [intOf]
          · by_cases hk : lb = k
            · subst hk
              have hv : ((la : Int) - i) = (F i lb : Nat) := by rw [HFE.out i]; omega
              have Hv := hid hv; clear hv
              have hne : ((i : Int) == (la : Int)) = false := by simp; omega
              go_wp2_with fail
              go_roundw
              case rel => exact ⟨lb, by omega, by go_num, by simpa [World.setCell] using Hsz2.out, by rw [Hv.out, HR0.out]; exact Htab.out.put (by omega), hbel.setCell (by first | (simp [HR0.out]; done) | (simp [HR0.out]; omega)) _⟩
              case measure => simp [intOf]
            · obtain ⟨p0, p1, p2, p3, p4⟩ := Htab.out.reads (by omega) (by omega)
              obtain ⟨R1, hR1⟩ : ∃ R1, R1 = w.heap.size + 1 + (la - (i + 1)) := ⟨_, rfl⟩
              rw [← HR0.out] at p0 p4
              rw [← hR1] at p1 p2 p3
              have HR1 := hid hR1; clear hR1
              have hil : i < la := by omega
              have hkl : k < lb := by omega
              obtain ⟨ba, oa, rfl, hba, hca⟩ := rl.at (by rw [← Hla.out]; omega)
              obtain ⟨bb, ob, rfl, hbb, hcb⟩ := rp.at (by rw [← Hlb.out]; omega)
              have p5 : wr.cell? ⟨ba, oa + i, none⟩ = some (.int .i64 (nth line i)) := (hbel.cell (p := ⟨ba, oa + i, none⟩) hba).trans (hca i (by rw [← Hla.out]; exact hil))
              have p6 : wr.cell? ⟨bb, ob + k, none⟩ = some (.int .i64 (nth par k)) := (hbel.cell (p := ⟨bb, ob + k, none⟩) hbb).trans (hcb k (by rw [← Hlb.out]; exact hkl))
              clear hca hcb p0
              have hne : ((i : Int) == (la : Int)) = false := by simp; omega
              have hne2 : ((k : Int) == (lb : Int)) = false := by simp; omega
              have hst := HFS.out i k hil hkl
              have d1 := HFB.out (i + 1) (k + 1)
              have d2 := HFB.out (i + 1) k
              have d3 := HFB.out i (k + 1)
              have d4 := df_le (nth line i) (nth par k)
              obtain ⟨x, hx⟩ : ∃ x, x = F (i + 1) (k + 1) := ⟨_, rfl⟩
              obtain ⟨y, hy⟩ : ∃ y, y = F (i + 1) k := ⟨_, rfl⟩
              obtain ⟨z, hz⟩ : ∃ z, z = F i (k + 1) := ⟨_, rfl⟩
              obtain ⟨u, hu⟩ : ∃ u, u = df (nth line i) (nth par k) := ⟨_, rfl⟩
              rw [← hx] at hst d1 p2
              rw [← hy] at hst d2 p3
              rw [← hz] at hst d3 p4
              rw [← hu] at hst d4
              have Hst := hid hst; have Hu := hid hu; clear hst hx hy hz hu
              go_wp2_with fail
              have r1 : IntKind.i64.wrap ((i : Int) + 1) = (i : Int) + 1 := IntWalk.i64_in _ (by omega)
              have r2 : IntKind.i64.wrap ((k : Int) + 1) = (k : Int) + 1 := IntWalk.i64_in _ (by omega)
              have r3 : (0 : Int) ≤ (i : Int) + 1 := by omega
              have r4 : (0 : Int) ≤ (k : Int) + 1 := by omega
              have r5 : (i : Int) + 1 < (la : Int) + 1 := by omega
              have r6 : (k : Int) + 1 < (lb : Int) + 1 := by omega
              have r7 : ((i : Int) + 1).toNat = i + 1 := by omega
              have r8 : ((k : Int) + 1).toNat = k + 1 := by omega
              have r9 : (i : Int) < (la : Int) + 1 := by omega
              have r10 : (k : Int) < (lb : Int) + 1 := by omega
              have r11 : (i : Int) < (la : Int) := by omega
              have r12 : (k : Int) < (lb : Int) := by omega
              have r13 : IntKind.i64.wrap ((u : Int) + x) = (u : Int) + x := IntWalk.i64_in _ (by omega)
              have r14 : IntKind.i64.wrap (1 + (y : Int)) = 1 + (y : Int) := IntWalk.i64_in _ (by omega)
              have r15 : IntKind.i64.wrap (1 + (z : Int)) = 1 + (z : Int) := IntWalk.i64_in _ (by omega)
              have n1 : R0 ≠ w.heap.size := by have := HR0.out; omega
              have n2 : R0 ≠ R1 := by have := HR0.out; have := HR1.out; omega
              have n3 : R0 ≠ ba := by have := HR0.out; omega
              have n4 : R0 ≠ bb := by have := HR0.out; omega
              have Hbel := hid hbel; clear hbel
              clear d1 d2 d3 d4 rl rp
              go_region_held3 (fun w' => w'.cell? ⟨w.heap.size, i, none⟩ = some (.slice (some ⟨R0, 0, none⟩) (lb + 1) (lb + 1)) ∧ w'.cell? ⟨w.heap.size, i + 1, none⟩ = some (.slice (some ⟨R1, 0, none⟩) (lb + 1) (lb + 1)) ∧
                  w'.cell? ⟨R1, k + 1, none⟩ = some (.int .i64 x) ∧ w'.cell? ⟨R1, k, none⟩ = some (.int .i64 y) ∧ w'.cell? ⟨R0, k + 1, none⟩ = some (.int .i64 z) ∧ w'.cell? ⟨ba, oa + i, none⟩ = some (.int .i64 (nth line i)) ∧ w'.cell? ⟨bb, ob + k, none⟩ = some (.int .i64 (nth par k)))
                (first | exact ⟨o1, p1, p2, p3, p4, p5, p6⟩ | exact ⟨cell_set_far o1 (.inl n1), cell_set_far p1 (.inl n1), cell_set_far p2 (.inl n2), cell_set_far p3 (.inl n2), cell_set_far p4 (.inr (by omega)), cell_set_far p5 (.inl n3), cell_set_far p6 (.inl n4)⟩)
                (first | (go_at_call 71; (with_reducible refine (differ_at2 Hu.out _).mono ?_); rintro e w' ⟨rfl, rfl⟩))
              have hval : (if 1 + (z : Int) < if 1 + (y : Int) < (u : Int) + x then 1 + (y : Int) else (u : Int) + x then 1 + (z : Int) else if 1 + (y : Int) < (u : Int) + x then 1 + (y : Int) else (u : Int) + x) = (F i k : Int) := by
                rw [Hst.out]; split <;> split <;> omega
              have Hval := hid hval; clear hval
              go_wp2_with fail
              go_roundw
              case rel => exact ⟨k, by omega, by go_num, by simpa [World.setCell] using Hsz2.out, by rw [Hval.out, HR0.out]; exact (Htab.out.put (by omega)).drew, by rw [HR0.out]; exact (Hbel.out.setCell (by simp; omega) _).drew⟩
              case measure => simp [intOf]
end Go.Proofs.Ytaoddenadfmdbaa
