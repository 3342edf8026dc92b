/- WALK: copies.align: the table, and the alignment that is chosen. -/
import Derived.Test.YtaoddenadfmdbaaBaseC
import Derived.Test.YtaoddenadfmdbaaAln
namespace Go.Proofs.Ytaoddenadfmdbaa
open Go.RowKit
theorem Try.infoRow : (Try.prog.info? 26).map (fun i => (i.zero, i.size, i.bytes)) = some (some (.slice none 0 0), 1, 24) := by kernel_rfl
theorem Try.infoPair : (Try.prog.info? 81).map (fun i => (i.zero, i.size, i.bytes)) = some (some (.agg #[.int .i64 0, .int .i64 0]), 2, 16) := by kernel_rfl
/-- The cells of a list of pairs. -/
def flatP (P : List (Int × Int)) : List Value := P.flatMap fun p => [.int .i64 p.1, .int .i64 p.2]
theorem flatP_snoc (P : List (Int × Int)) (p : Int × Int) : flatP (P ++ [p]) = flatP P ++ [.int .i64 p.1, .int .i64 p.2] := by simp [flatP]
theorem below_dr {B : Nat} {a w : World} (h : Below B a w) (n : Nat) : Below B a (w.drewN n) := ⟨h.os, h.tape, h.output, h.size, h.block⟩
theorem both_any (x y : Int) (w : World) : Calls Try.prog 29 #[.int .i64 x, .int .i64 y] w fun e w' => e = .returned (.int .i64 (bc x y : Nat)) ∧ w = w' := by
  by_cases h : x = y
  · subst h
    go_enter Try.func29, Try.ntmps29
    go_wp2
    go_ret
    exact ⟨by simp [bc], rfl⟩
  · go_enter Try.func29, Try.ntmps29
    go_wp2
    go_ret
    exact ⟨by simp [bc, h], rfl⟩
/-- The table: the rows from r on are filled. -/
structure Tab (w : World) (B : Nat) (a b : List Int) (la lb r : Nat) : Prop where
  top : w.rowIs B 26 (la + 1) (fun x => if r ≤ x then .slice (some ⟨B + 1 + (la - x), 0, none⟩) (lb + 1) (lb + 1) else .slice none 0 0)
  rows : ∀ x, r ≤ x → x ≤ la → w.rowIs (B + 1 + (la - x)) 3 (lb + 1) (fun k => .int .i64 (Dat a b x k))
/-- .. and of row i the places from s on. -/
structure TabIn (w : World) (B : Nat) (a b : List Int) (la lb i s : Nat) : Prop where
  top : w.rowIs B 26 (la + 1) (fun x => if i ≤ x then .slice (some ⟨B + 1 + (la - x), 0, none⟩) (lb + 1) (lb + 1) else .slice none 0 0)
  rows : ∀ x, i + 1 ≤ x → x ≤ la → w.rowIs (B + 1 + (la - x)) 3 (lb + 1) (fun k => .int .i64 (Dat a b x k))
  cur : w.rowIs (B + 1 + (la - i)) 3 (lb + 1) (fun k => if s ≤ k then .int .i64 (Dat a b i k) else .int .i64 0)
theorem Tab.start (w : World) (a b : List Int) (la lb : Nat) : Tab (w.alloc (.cells (madeCells #[.slice none 0 0] (la + 1)) 26)) w.heap.size a b la lb (la + 1) :=
  ⟨(World.rowIs_made w (.slice none 0 0) (la + 1) 26).congr (fun x hx => by rw [if_neg (by omega)]), fun x h1 h2 => by omega⟩
theorem Tab.row {w : World} {B : Nat} {a b : List Int} {la lb i : Nat} (h : Tab w B a b la lb (i + 1)) (hi : i ≤ la) (hsz : w.heap.size = B + 1 + (la - i)) :
    TabIn ((w.setCell ⟨B, i, none⟩ (.slice (some ⟨w.heap.size, 0, none⟩) (lb + 1) (lb + 1))).alloc (.cells (madeCells #[.int .i64 0] (lb + 1)) 3)) B a b la lb i (lb + 1) := by
  refine ⟨((h.top.set i _).alloc _).congr (fun x hx => ?_), fun x h1 h2 => ((h.rows x h1 h2).setOther (by simp; omega) _).alloc _, ?_⟩
  · by_cases e : x = i
    · subst e; simp [hsz]
    · rw [if_neg e]
      by_cases h1 : i + 1 ≤ x
      · rw [if_pos h1, if_pos (by omega)]
      · rw [if_neg h1, if_neg (by omega)]
  · have := World.rowIs_made (w.setCell ⟨B, i, none⟩ (.slice (some ⟨w.heap.size, 0, none⟩) (lb + 1) (lb + 1))) (.int .i64 0) (lb + 1) 3
    rw [show (w.setCell ⟨B, i, none⟩ (.slice (some ⟨w.heap.size, 0, none⟩) (lb + 1) (lb + 1))).heap.size = B + 1 + (la - i) by simp [World.setCell, hsz]] at this
    exact this.congr (fun x hx => by rw [if_neg (by omega)])
theorem Tab.at {w w' : World} {B : Nat} {a b : List Int} {la lb : Nat} (h : Tab w B a b la lb 0) (hb : Below w.heap.size w w') (x k : Nat) (hx : x ≤ la) (hk : k ≤ lb) :
    w'.cell? ⟨B, x, none⟩ = some (.slice (some ⟨B + 1 + (la - x), 0, none⟩) (lb + 1) (lb + 1)) ∧ w'.cell? ⟨B + 1 + (la - x), k, none⟩ = some (.int .i64 (Dat a b x k)) := by
  have h1 := h.top.lt
  have h2 := (h.rows x (Nat.zero_le _) hx).lt
  refine ⟨(hb.cell (p := ⟨B, x, none⟩) h1).trans ?_, (hb.cell (p := ⟨B + 1 + (la - x), k, none⟩) h2).trans ((h.rows x (Nat.zero_le _) hx).cell (by omega))⟩
  rw [h.top.cell (by omega), if_pos (Nat.zero_le _)]
theorem both_at {x y : Int} {u : Nat} (h : bc x y = u) (w : World) : Calls Try.prog 29 #[.int .i64 x, .int .i64 y] w fun e w' => e = .returned (.int .i64 (u : Nat)) ∧ w' = w :=
  (both_any x y w).mono fun _ _ ⟨h1, h2⟩ => ⟨by rw [h1, h], h2.symm⟩
theorem TabIn.put {w : World} {B : Nat} {a b : List Int} {la lb i s : Nat} (h : TabIn w B a b la lb i (s + 1)) (hi : i ≤ la) :
    TabIn (w.setCell ⟨B + 1 + (la - i), s, none⟩ (.int .i64 (Dat a b i s))) B a b la lb i s := by
  refine ⟨h.top.setOther (by simp; omega) _, fun x h1 h2 => (h.rows x h1 h2).setOther (by simp; omega) _, (h.cur.set s _).congr (fun x hx => ?_)⟩
  by_cases e : x = s
  · subst e; simp
  · rw [if_neg e]
    by_cases h1 : s + 1 ≤ x
    · rw [if_pos h1, if_pos (by omega)]
    · rw [if_neg h1, if_neg (by omega)]
theorem TabIn.done {w : World} {B : Nat} {a b : List Int} {la lb i : Nat} (h : TabIn w B a b la lb i 0) : Tab w B a b la lb i :=
  ⟨h.top, fun x h1 h2 => by
    rcases Nat.lt_or_ge i x with h3 | h3
    · exact h.rows x (by omega) h2
    · obtain rfl : x = i := by omega
      exact h.cur.congr (fun k hk => by rw [if_pos (Nat.zero_le _)])⟩
theorem TabIn.drew {w : World} {B : Nat} {a b : List Int} {la lb i s : Nat} (h : TabIn w B a b la lb i s) : TabIn w.drew B a b la lb i s := ⟨h.top, h.rows, h.cur⟩
/-- What one step of the table reads. -/
theorem TabIn.reads {w : World} {B : Nat} {a b : List Int} {la lb i s : Nat} (h : TabIn w B a b la lb i (s + 1)) (hi : i < la) (hs : s < lb) :
    w.cell? ⟨B, i, none⟩ = some (.slice (some ⟨B + 1 + (la - i), 0, none⟩) (lb + 1) (lb + 1)) ∧ w.cell? ⟨B, i + 1, none⟩ = some (.slice (some ⟨B + 1 + (la - (i + 1)), 0, none⟩) (lb + 1) (lb + 1)) ∧
    w.cell? ⟨B + 1 + (la - (i + 1)), s + 1, none⟩ = some (.int .i64 (Dat a b (i + 1) (s + 1))) ∧ w.cell? ⟨B + 1 + (la - (i + 1)), s, none⟩ = some (.int .i64 (Dat a b (i + 1) s)) ∧
    w.cell? ⟨B + 1 + (la - i), s + 1, none⟩ = some (.int .i64 (Dat a b i (s + 1))) := by
  refine ⟨?_, ?_, (h.rows (i + 1) (Nat.le_refl _) hi).cell (by omega), (h.rows (i + 1) (Nat.le_refl _) hi).cell (by omega), ?_⟩
  · rw [h.top.cell (by omega), if_pos (Nat.le_refl _)]
  · rw [h.top.cell (by omega), if_pos (by omega)]
  · rw [h.cur.cell (by omega), if_pos (Nat.le_refl _)]
theorem TabIn.own {w : World} {B : Nat} {a b : List Int} {la lb i s : Nat} (h : TabIn w B a b la lb i (s + 1)) (hi : i ≤ la) (hs : s ≤ lb) :
    w.cell? ⟨B, i, none⟩ = some (.slice (some ⟨B + 1 + (la - i), 0, none⟩) (lb + 1) (lb + 1)) ∧ w.cell? ⟨B + 1 + (la - i), s, none⟩ = some (.int .i64 0) ∧ w.frozen? ⟨B + 1 + (la - i), s, none⟩ = false := by
  refine ⟨?_, ?_, h.cur.frozen s⟩
  · rw [h.top.cell (by omega), if_pos (Nat.le_refl _)]
  · rw [h.cur.cell (by omega), if_neg (by omega)]
set_option maxRecDepth 100000 in
set_option maxHeartbeats 1000000 in
theorem align_any (a b : List Int) (Aa Ab : Option Addr) (ca cb : Nat) (ha : a.length ≤ 60) (hb : b.length ≤ 60) (w : World) (ra : Rd w w.heap.size Aa a) (rb : Rd w w.heap.size Ab b) :
    Calls Try.prog 16 #[.slice Aa a.length ca, .slice Ab b.length cb] w fun e w' => ∃ v, e = .returned (.tuple #[v, .int .i64 (D a b : Nat)]) ∧
      w'.ownsRow w.heap.size 81 2 v (pairsOf a b).length (flatP (pairsOf a b)) ∧ Below w.heap.size w w' := by
  obtain ⟨la, hla⟩ : ∃ la, la = a.length := ⟨_, rfl⟩
  obtain ⟨lb, hlb⟩ : ∃ lb, lb = b.length := ⟨_, rfl⟩
  rw [← hla, ← hlb]
  rw [← hla] at ha
  rw [← hlb] at hb
  have Hla := hid hla; have Hlb := hid hlb; clear hla hlb
  have hmk : ∀ W, (Instr.makeSlice 43 (.int .i64 ((la : Int) + 1)) (.int .i64 ((la : Int) + 1))).run Try.prog W = .ok (.slice (some ⟨W.heap.size, 0, none⟩) (la + 1) (la + 1)) (W.alloc (.cells (madeCells #[.slice none 0 0] (la + 1)) 26)) := fun W => by
    have := run_make_row' (P := Try.prog) 43 26 (.slice none 0 0) 24 Try.underlying43 Try.infoRow rfl .i64 .i64 (la + 1) (by omega) (by omega) W
    simpa using this
  have hmk2 : ∀ W, (Instr.makeSlice 26 (.int .i64 ((lb : Int) + 1)) (.int .i64 ((lb : Int) + 1))).run Try.prog W = .ok (.slice (some ⟨W.heap.size, 0, none⟩) (lb + 1) (lb + 1)) (W.alloc (.cells (madeCells #[.int .i64 0] (lb + 1)) 3)) := fun W => by
    have := run_make_row' (P := Try.prog) 26 3 (.int .i64 0) 8 Try.underlying26 Try.infoInt rfl .i64 .i64 (lb + 1) (by omega) (by omega) W
    simpa using this
  go_enter Try.func16, Try.ntmps16
  go_wp2_with fail
  go_loopw [7, 8] (fun i k wr => ∃ r : Nat, r ≤ la + 1 ∧ i = .int .i64 ((r : Int) - 1) ∧ wr.heap.size = w.heap.size + 1 + (la + 1 - r) ∧ Tab wr w.heap.size a b la lb r ∧ Below w.heap.size w wr) (fun i _ _ => (intOf i + 1).toNat)
  case atStart => exact ⟨la + 1, Nat.le_refl _, by go_num, by simp, Tab.start w a b la lb, (Below.refl _ _).alloc (Nat.le_refl _) _⟩
  case round =>
    obtain ⟨r, hr, rfl, hsz, htab, hbel⟩ := hrel
    obtain ⟨wo, rfl⟩ : ∃ wo : World, wo = wr := ⟨_, rfl⟩
    cases r with
    | zero =>
      rw [show (((0 : Nat) : Int) - 1) = -1 from rfl]
      have HB := hid hbel; have Htab := hid htab; have Hsz := hid hsz; clear hbel htab hsz hmk hmk2
      go_wp2_with fail
      go_loopw [4, 9, 10] (fun v i k wr => ∃ (i' k' n : Nat) (P : List (Int × Int)), i' ≤ la ∧ k' ≤ lb ∧ i = .int .i64 i' ∧ k = .int .i64 k' ∧ la - i' + (lb - k') ≤ n ∧ P ++ tr n i' k' (a.drop i') (b.drop k') = pairsOf a b ∧
        wr.ownsRow wo.heap.size 81 2 v P.length (flatP P) ∧ Below wo.heap.size wo wr) (fun _ i k _ => (la + lb) - ((intOf i).toNat + (intOf k).toNat))
      case atStart => exact ⟨0, 0, la + lb, [], by omega, by omega, rfl, rfl, by omega, by rw [Hla.out, Hlb.out]; rfl, World.ownsRow_nil _ _ _ _, Below.refl _ _⟩
      case round =>
        obtain ⟨i, k, n, P, hi, hk, rfl, rfl, hn, htr, hown, hbr⟩ := hrel
        have hPl : P.length ≤ 120 := by
          have := congrArg List.length htr
          have h2 := tr_len (a.length + b.length) 0 0 a b
          rw [List.length_append] at this
          rw [← Hla.out, ← Hlb.out] at h2
          unfold pairsOf at this
          rw [← Hla.out, ← Hlb.out] at this
          omega
        have Hn := hid hn; have Htr := hid htr; have Hbr := hid hbr; clear hn htr hbr
        have hsz1 := Hbr.out.size
        by_cases hil : i < la
        · obtain ⟨p0, p4⟩ := Htab.out.at Hbr.out i k hi hk
          obtain ⟨p1, p3⟩ := Htab.out.at Hbr.out (i + 1) k (by omega) hk
          obtain ⟨X, hX⟩ : ∃ X, X = Dat a b i k := ⟨_, rfl⟩
          obtain ⟨y, hy⟩ : ∃ y, y = Dat a b (i + 1) k := ⟨_, rfl⟩
          obtain ⟨R0, hR0⟩ : ∃ R0, R0 = w.heap.size + 1 + (la - i) := ⟨_, rfl⟩
          obtain ⟨R1, hR1⟩ : ∃ R1, R1 = w.heap.size + 1 + (la - (i + 1)) := ⟨_, rfl⟩
          have d2 : y ≤ 2 * (la + lb) := by have := Dat_le a b (i + 1) k; rw [← Hla.out, ← Hlb.out] at this; rw [hy]; exact this
          rw [← hR0] at p0 p4; rw [← hR1] at p1 p3; rw [← hX] at p4; rw [← hy] at p3
          have HX := hid hX; have Hy := hid hy; have HR0 := hid hR0; have HR1 := hid hR1; clear hX hy hR0 hR1
          have r1 : IntKind.i64.wrap ((i : Int) + 1) = (i : Int) + 1 := IntWalk.i64_in _ (by omega)
          have r3 : (0 : Int) ≤ (i : Int) + 1 := by omega
          have r5 : (i : Int) + 1 < (la : Int) + 1 := by omega
          have r7 : ((i : Int) + 1).toNat = i + 1 := by omega
          have r9 : (i : Int) < (la : Int) + 1 := by omega
          have r10 : (k : Int) < (lb : Int) + 1 := by omega
          have r11 : (i : Int) < (la : Int) := by omega
          have r14 : IntKind.i64.wrap (2 + (y : Int)) = 2 + (y : Int) := IntWalk.i64_in _ (by omega)
          by_cases hkl : k < lb
          · obtain ⟨_, p2⟩ := Htab.out.at Hbr.out (i + 1) (k + 1) (by omega) (by omega)
            obtain ⟨x, hx⟩ : ∃ x, x = Dat a b (i + 1) (k + 1) := ⟨_, rfl⟩
            obtain ⟨u, hu⟩ : ∃ u, bc (nth a i) (nth b k) = u := ⟨_, rfl⟩
            have d1 : x ≤ 2 * (la + lb) := by have := Dat_le a b (i + 1) (k + 1); rw [← Hla.out, ← Hlb.out] at this; rw [hx]; exact this
            have d4 := bc_le (nth a i) (nth b k)
            rw [hu] at d4
            rw [← HR1.out, ← hx] at p2
            have Hx := hid hx; have Hu := hid hu; clear hx hu
            have r2 : IntKind.i64.wrap ((k : Int) + 1) = (k : Int) + 1 := IntWalk.i64_in _ (by omega)
            have r4 : (0 : Int) ≤ (k : Int) + 1 := by omega
            have r6 : (k : Int) + 1 < (lb : Int) + 1 := by omega
            have r8 : ((k : Int) + 1).toNat = k + 1 := by omega
            have r12 : (k : Int) < (lb : Int) := by omega
            have r13 : IntKind.i64.wrap ((u : Int) + x) = (u : Int) + x := IntWalk.i64_in _ (by omega)
            obtain ⟨ba, oa, rfl, hba, hca⟩ := ra.at (by rw [← Hla.out]; omega)
            obtain ⟨bb, ob, rfl, hbb, hcb⟩ := rb.at (by rw [← Hlb.out]; omega)
            have p5 : wr.cell? ⟨ba, oa + i, none⟩ = some (.int .i64 (nth a i)) := ((HB.out.trans (Hbr.out.mono HB.out.size)).cell (p := ⟨ba, oa + i, none⟩) hba).trans (hca i (by rw [← Hla.out]; exact hil))
            have p6 : wr.cell? ⟨bb, ob + k, none⟩ = some (.int .i64 (nth b k)) := ((HB.out.trans (Hbr.out.mono HB.out.size)).cell (p := ⟨bb, ob + k, none⟩) hbb).trans (hcb k (by rw [← Hlb.out]; exact hkl))
            clear hca hcb ra rb d1 d2 d4
            by_cases hA : X = u + x
            · obtain ⟨m, hm1, hm2⟩ := tr_both (a := a) (b := b) (n := n) (i := i) (k := k) (by rw [← Hla.out]; exact hil) (by rw [← Hlb.out]; exact hkl) (by rw [← Hla.out, ← Hlb.out]; exact Hn.out) (by rw [← HX.out, ← Hx.out]; exact hA.trans (by rw [← Hu.out]; rfl))
              rw [← Hla.out, ← Hlb.out] at hm1
              have Hm := hid (And.intro hm1 hm2); clear hm1 hm2
              have he : ((X : Int) == (u : Int) + x) = true := by simp; omega
              clear hA
              go_wp2_with fail
              go_quiet ((go_at_call 29; exact Calls.quiet_of_same (both_at Hu.out _)))
              clear he p0 p1 p2 p3 p4 p5 p6 r1 r2 r7 r8 r13 r14
              go_wp2_with (at_builtin; refine app_elem rfl (.tmp 167) (.tmp 171) Try.underlying37 Try.infoPair rfl (by decide) (by decide) rfl wo.heap.size _ _ _ rfl (hown.alloc _) ⟨wr.heap.size, 0, none⟩ [.int .i64 i, .int .i64 k] rfl rfl (cell_news _ _ _) (by simp [Value.oneCell']) (by omega) (by simp; omega) ?_; intro v' w1 hown3 hgrow)
              go_roundw
              case rel => exact ⟨i + 1, k + 1, m, P ++ [((i : Int), (k : Int))], by omega, by omega, by go_num, by go_num, by first | exact Hm.out.1 | (have := Hm.out.1; omega), by rw [List.append_assoc]; exact (congrArg (P ++ ·) Hm.out.2).symm.trans Htr.out, by rw [flatP_snoc, List.length_append]; exact hown3, below_app ((below_dr Hbr.out _).alloc (by simp; omega) _) (hown.alloc _) hgrow (Nat.le_refl _) (by simp; omega)⟩
              case measure => simp [intOf]; omega
            · have he : ((X : Int) == (u : Int) + x) = false := by simp; omega
              have hne : Dat a b i k ≠ bc (a.getD i 0) (b.getD k 0) + Dat a b (i + 1) (k + 1) := by rw [← HX.out, ← Hx.out]; exact fun h => hA (h.trans (by rw [← Hu.out]; rfl))
              clear hA
              have Hne := hid hne; clear hne
              by_cases hB2 : X = 2 + y
              · obtain ⟨m, hm1, hm2⟩ := tr_left (a := a) (b := b) (n := n) (i := i) (k := k) (by rw [← Hla.out]; exact hil) (by rw [← Hla.out, ← Hlb.out]; exact Hn.out) (fun _ => Hne.out) (by rw [← HX.out, ← Hy.out]; exact hB2)
                rw [← Hla.out, ← Hlb.out] at hm1
                have Hm := hid (And.intro hm1 hm2); clear hm1 hm2
                have he2 : ((X : Int) == 2 + (y : Int)) = true := by simp; omega
                clear hB2
                go_wp2_with fail
                go_quiet ((go_at_call 29; exact Calls.quiet_of_same (both_at Hu.out _)))
                clear p2 p5 p6 he r2 r8 r13
                go_wp2_with fail
                go_quiet (fail)
                clear he2 p0 p1 p3 p4 r1 r7 r14
                go_wp2_with (at_builtin; refine app_elem rfl (.tmp 201) (.tmp 204) Try.underlying37 Try.infoPair rfl (by decide) (by decide) rfl wo.heap.size _ _ _ rfl (hown.alloc _) ⟨wr.heap.size, 0, none⟩ [.int .i64 i, .int .i64 (-1)] rfl rfl (cell_news _ _ _) (by simp [Value.oneCell']) (by omega) (by simp; omega) ?_; intro v' w1 hown3 hgrow)
                go_roundw
                case rel => exact ⟨i + 1, k, m, P ++ [((i : Int), -1)], by omega, by omega, by go_num, by go_num, by first | exact Hm.out.1 | (have := Hm.out.1; omega), by rw [List.append_assoc]; exact (congrArg (P ++ ·) Hm.out.2).symm.trans Htr.out, by rw [flatP_snoc, List.length_append]; exact hown3, below_app ((below_dr Hbr.out _).alloc (by simp; omega) _) (hown.alloc _) hgrow (Nat.le_refl _) (by simp; omega)⟩
                case measure => simp [intOf]; omega
              · obtain ⟨m, hm1, hm2⟩ := tr_right (a := a) (b := b) (n := n) (i := i) (k := k) (by rw [← Hlb.out]; exact hkl) (by rw [← Hla.out, ← Hlb.out]; exact Hn.out) (fun _ => Hne.out) (fun _ => by rw [← HX.out, ← Hy.out]; exact hB2)
                rw [← Hla.out, ← Hlb.out] at hm1
                have Hm := hid (And.intro hm1 hm2); clear hm1 hm2
                have he2 : ((X : Int) == 2 + (y : Int)) = false := by simp; omega
                clear hB2
                go_wp2_with fail
                go_quiet ((go_at_call 29; exact Calls.quiet_of_same (both_at Hu.out _)))
                clear p2 p5 p6 he r2 r8 r13
                go_wp2_with fail
                go_quiet (fail)
                clear he2 p0 p1 p3 p4 r1 r7 r14
                go_wp2_with (at_builtin; refine app_elem rfl (.tmp 120) (.tmp 123) Try.underlying37 Try.infoPair rfl (by decide) (by decide) rfl wo.heap.size _ _ _ rfl (hown.alloc _) ⟨wr.heap.size, 0, none⟩ [.int .i64 (-1), .int .i64 k] rfl rfl (cell_news _ _ _) (by simp [Value.oneCell']) (by omega) (by simp; omega) ?_; intro v' w1 hown3 hgrow)
                go_roundw
                case rel => exact ⟨i, k + 1, m, P ++ [(-1, (k : Int))], by omega, by omega, by go_num, by go_num, by first | exact Hm.out.1 | (have := Hm.out.1; omega), by rw [List.append_assoc]; exact (congrArg (P ++ ·) Hm.out.2).symm.trans Htr.out, by rw [flatP_snoc, List.length_append]; exact hown3, below_app ((below_dr Hbr.out _).alloc (by simp; omega) _) (hown.alloc _) hgrow (Nat.le_refl _) (by simp; omega)⟩
                case measure => simp [intOf]; omega
          · obtain ⟨m, hm1, hm2⟩ := tr_left (a := a) (b := b) (n := n) (i := i) (k := k) (by rw [← Hla.out]; exact hil) (by rw [← Hla.out, ← Hlb.out]; exact Hn.out) (fun h => by rw [← Hlb.out] at h; omega) (Dat_left_end (by rw [← Hla.out]; exact hil) (by rw [← Hlb.out]; omega))
            rw [← Hla.out, ← Hlb.out] at hm1
            have hXy : X = 2 + y := by rw [HX.out, Hy.out]; exact Dat_left_end (by rw [← Hla.out]; exact hil) (by rw [← Hlb.out]; omega)
            have Hm := hid (And.intro hm1 hm2); clear hm1 hm2
            have he2 : ((X : Int) == 2 + (y : Int)) = true := by simp; omega
            clear hXy d2
            have hd1 : decide ((k : Int) < lb) = false := by simp; omega
            go_wp2_with fail
            go_quiet (fail)
            go_wp2_with fail
            go_quiet (fail)
            clear he2 p0 p1 p3 p4 r1 r7 r14
            go_wp2_with (at_builtin; refine app_elem rfl (.tmp 201) (.tmp 204) Try.underlying37 Try.infoPair rfl (by decide) (by decide) rfl wo.heap.size _ _ _ rfl (hown.alloc _) ⟨wr.heap.size, 0, none⟩ [.int .i64 i, .int .i64 (-1)] rfl rfl (cell_news _ _ _) (by simp [Value.oneCell']) (by omega) (by simp; omega) ?_; intro v' w1 hown3 hgrow)
            go_roundw
            case rel => exact ⟨i + 1, k, m, P ++ [((i : Int), -1)], by omega, by omega, by go_num, by go_num, by first | exact Hm.out.1 | (have := Hm.out.1; omega), by rw [List.append_assoc]; exact (congrArg (P ++ ·) Hm.out.2).symm.trans Htr.out, by rw [flatP_snoc, List.length_append]; exact hown3, below_app ((below_dr Hbr.out _).alloc (by simp; omega) _) (hown.alloc _) hgrow (Nat.le_refl _) (by simp; omega)⟩
            case measure => simp [intOf]; omega
        · by_cases hkl : k < lb
          · have hd1 : decide ((i : Int) < la) = false := by simp; omega
            obtain ⟨m, hm1, hm2⟩ := tr_right (a := a) (b := b) (n := n) (i := i) (k := k) (by rw [← Hlb.out]; exact hkl) (by rw [← Hla.out, ← Hlb.out]; exact Hn.out) (fun h => by rw [← Hla.out] at h; omega) (fun h => by rw [← Hla.out] at h; omega)
            rw [← Hla.out, ← Hlb.out] at hm1
            have Hm := hid (And.intro hm1 hm2); clear hm1 hm2
            go_wp2_with fail
            go_quiet (fail)
            go_wp2_with fail
            go_quiet (fail)
            go_wp2_with (at_builtin; refine app_elem rfl (.tmp 120) (.tmp 123) Try.underlying37 Try.infoPair rfl (by decide) (by decide) rfl wo.heap.size _ _ _ rfl (hown.alloc _) ⟨wr.heap.size, 0, none⟩ [.int .i64 (-1), .int .i64 k] rfl rfl (cell_news _ _ _) (by simp [Value.oneCell']) (by omega) (by simp; omega) ?_; intro v' w1 hown3 hgrow)
            go_roundw
            case rel => exact ⟨i, k + 1, m, P ++ [(-1, (k : Int))], by omega, by omega, by go_num, by go_num, by first | exact Hm.out.1 | (have := Hm.out.1; omega), by rw [List.append_assoc]; exact (congrArg (P ++ ·) Hm.out.2).symm.trans Htr.out, by rw [flatP_snoc, List.length_append]; exact hown3, below_app ((below_dr Hbr.out _).alloc (by simp; omega) _) (hown.alloc _) hgrow (Nat.le_refl _) (by simp; omega)⟩
            case measure => simp [intOf]; omega
          · obtain rfl : i = la := by omega
            obtain rfl : k = lb := by omega
            have hP : P = pairsOf a b := by have := Htr.out; rw [List.drop_of_length_le (by rw [Hla.out]; exact Nat.le_refl _), List.drop_of_length_le (by rw [Hlb.out]; exact Nat.le_refl _), tr_done, List.append_nil] at this; exact this
            obtain ⟨p0, p4⟩ := Htab.out.at Hbr.out 0 0 (Nat.zero_le _) (Nat.zero_le _)
            rw [show Dat a b 0 0 = D a b from rfl] at p4
            obtain ⟨R0, hR0⟩ : ∃ R0, R0 = w.heap.size + 1 + (i - 0) := ⟨_, rfl⟩
            rw [← hR0] at p0 p4
            clear hR0
            have HP := hid hP; clear hP
            have r1 : (0 : Int) < (i : Int) + 1 := by omega
            have r2 : (0 : Int) < (k : Int) + 1 := by omega
            have hd1 : decide ((i : Int) < i) = false := by simp
            have hd2 : decide ((k : Int) < k) = false := by simp
            go_wp2_with fail
            go_quiet (fail)
            go_wp2
            go_ret2
            exact ⟨_, rfl, by rw [← HP.out]; exact own_base hown HB.out.size, HB.out.trans ((below_dr Hbr.out _).mono HB.out.size)⟩
    | succ i =>
      rw [show (((i + 1 : Nat) : Int) - 1) = (i : Int) by omega]
      have hsz1 : wo.heap.size = w.heap.size + 1 + (la - i) := by omega
      have hT := htab.row (by omega) hsz1
      have t1 : wo.cell? ⟨w.heap.size, i, none⟩ = some (.slice none 0 0) := by rw [htab.top.cell (by omega), if_neg (by omega)]
      have t2 : wo.frozen? ⟨w.heap.size, i, none⟩ = false := htab.top.frozen i
      have t3 : w.heap.size < wo.heap.size := by omega
      have HT := hid hT; clear hT
      have Hsz := hid hsz; have Hsz1 := hid hsz1; clear hsz hsz1
      go_wp2_with fail
      clear hmk hmk2
      go_loopw [8] (fun k wr => ∃ q : Nat, q ≤ lb + 1 ∧ k = .int .i64 ((q : Int) - 1) ∧ wr.heap.size = w.heap.size + 1 + (la + 1 - i) ∧ TabIn wr w.heap.size a b la lb i q ∧ Below w.heap.size w wr) (fun k _ => (intOf k + 1).toNat)
      case atStart => exact ⟨lb + 1, Nat.le_refl _, by go_num, by simp [World.setCell, Hsz1.out]; omega, HT.out, (hbel.setCell (by simp) _).alloc (by simp [World.setCell]; omega) _⟩
      case round =>
        obtain ⟨q, hq, rfl, hsz, htab, hbel⟩ := hrel
        have Hsz2 := hid hsz; clear hsz
        have Htab := hid htab; clear htab t1 t2 t3
        cases q with
        | zero =>
          go_wp2_with fail
          go_roundw
          case rel => exact ⟨i, by omega, by go_num, by rw [Hsz2.out], Htab.out.done, hbel⟩
          case measure => simp [intOf]
        | succ k =>
          rw [show (((k + 1 : Nat) : Int) - 1) = (k : Int) by omega]
          obtain ⟨o1, o2, o3⟩ := Htab.out.own (by omega) (by omega)
          obtain ⟨R0, hR0⟩ : ∃ R0, R0 = w.heap.size + 1 + (la - i) := ⟨_, rfl⟩
          rw [← hR0] at o1 o2 o3
          have HR0 := hid hR0; clear hR0
          by_cases hi : la = i
          · subst hi
            have hv : (2 * ((lb : Int) - k)) = (Dat a b la k : Nat) := by rw [Dat_last a b k la (by rw [Hla.out]; exact Nat.le_refl _), ← Hlb.out]; omega
            have Hv := hid hv; clear hv
            go_wp2_with fail
            go_roundw
            case rel => exact ⟨k, by omega, by go_num, by simpa [World.setCell] using Hsz2.out, by rw [Hv.out, HR0.out]; exact Htab.out.put (by omega), hbel.setCell (by first | (simp [HR0.out]; done) | (simp [HR0.out]; omega)) _⟩
            case measure => simp [intOf]
          · by_cases hk : lb = k
            · subst hk
              have hv : (2 * ((la : Int) - i)) = (Dat a b i lb : Nat) := by rw [Dat_end a b i lb (by rw [Hlb.out]; exact Nat.le_refl _), ← Hla.out]; omega
              have Hv := hid hv; clear hv
              have hne : ((i : Int) == (la : Int)) = false := by simp; omega
              go_wp2_with fail
              go_roundw
              case rel => exact ⟨lb, by omega, by go_num, by simpa [World.setCell] using Hsz2.out, by rw [Hv.out, HR0.out]; exact Htab.out.put (by omega), hbel.setCell (by first | (simp [HR0.out]; done) | (simp [HR0.out]; omega)) _⟩
              case measure => simp [intOf]
            · obtain ⟨p0, p1, p2, p3, p4⟩ := Htab.out.reads (by omega) (by omega)
              obtain ⟨R1, hR1⟩ : ∃ R1, R1 = w.heap.size + 1 + (la - (i + 1)) := ⟨_, rfl⟩
              rw [← HR0.out] at p0 p4
              rw [← hR1] at p1 p2 p3
              have HR1 := hid hR1; clear hR1
              have hil : i < la := by omega
              have hkl : k < lb := by omega
              obtain ⟨ba, oa, rfl, hba, hca⟩ := ra.at (by rw [← Hla.out]; omega)
              obtain ⟨bb, ob, rfl, hbb, hcb⟩ := rb.at (by rw [← Hlb.out]; omega)
              have p5 : wr.cell? ⟨ba, oa + i, none⟩ = some (.int .i64 (nth a i)) := (hbel.cell (p := ⟨ba, oa + i, none⟩) hba).trans (hca i (by rw [← Hla.out]; exact hil))
              have p6 : wr.cell? ⟨bb, ob + k, none⟩ = some (.int .i64 (nth b k)) := (hbel.cell (p := ⟨bb, ob + k, none⟩) hbb).trans (hcb k (by rw [← Hlb.out]; exact hkl))
              clear hca hcb p0
              have hne : ((i : Int) == (la : Int)) = false := by simp; omega
              have hne2 : ((k : Int) == (lb : Int)) = false := by simp; omega
              have hst : Dat a b i k = min (min (bc (nth a i) (nth b k) + Dat a b (i + 1) (k + 1)) (2 + Dat a b (i + 1) k)) (2 + Dat a b i (k + 1)) := Dat_step a b i k (by rw [← Hla.out]; exact hil) (by rw [← Hlb.out]; exact hkl)
              have d1 := Dat_le a b (i + 1) (k + 1)
              have d2 := Dat_le a b (i + 1) k
              have d3 := Dat_le a b i (k + 1)
              have d4 := bc_le (nth a i) (nth b k)
              rw [← Hla.out, ← Hlb.out] at d1 d2 d3
              obtain ⟨x, hx⟩ : ∃ x, x = Dat a b (i + 1) (k + 1) := ⟨_, rfl⟩
              obtain ⟨y, hy⟩ : ∃ y, y = Dat a b (i + 1) k := ⟨_, rfl⟩
              obtain ⟨z, hz⟩ : ∃ z, z = Dat a b i (k + 1) := ⟨_, rfl⟩
              obtain ⟨u, hu⟩ : ∃ u, u = bc (nth a i) (nth b k) := ⟨_, rfl⟩
              rw [← hx] at hst d1 p2
              rw [← hy] at hst d2 p3
              rw [← hz] at hst d3 p4
              rw [← hu] at hst d4
              have Hst := hid hst; have Hu := hid hu; clear hst hx hy hz hu
              go_wp2_with fail
              have r1 : IntKind.i64.wrap ((i : Int) + 1) = (i : Int) + 1 := IntWalk.i64_in _ (by omega)
              have r2 : IntKind.i64.wrap ((k : Int) + 1) = (k : Int) + 1 := IntWalk.i64_in _ (by omega)
              have r3 : (0 : Int) ≤ (i : Int) + 1 := by omega
              have r4 : (0 : Int) ≤ (k : Int) + 1 := by omega
              have r5 : (i : Int) + 1 < (la : Int) + 1 := by omega
              have r6 : (k : Int) + 1 < (lb : Int) + 1 := by omega
              have r7 : ((i : Int) + 1).toNat = i + 1 := by omega
              have r8 : ((k : Int) + 1).toNat = k + 1 := by omega
              have r9 : (i : Int) < (la : Int) + 1 := by omega
              have r10 : (k : Int) < (lb : Int) + 1 := by omega
              have r11 : (i : Int) < (la : Int) := by omega
              have r12 : (k : Int) < (lb : Int) := by omega
              have r13 : IntKind.i64.wrap ((u : Int) + x) = (u : Int) + x := IntWalk.i64_in _ (by omega)
              have r14 : IntKind.i64.wrap (2 + (y : Int)) = 2 + (y : Int) := IntWalk.i64_in _ (by omega)
              have r15 : IntKind.i64.wrap (2 + (z : Int)) = 2 + (z : Int) := IntWalk.i64_in _ (by omega)
              have n1 : R0 ≠ w.heap.size := by have := HR0.out; omega
              have n2 : R0 ≠ R1 := by have := HR0.out; have := HR1.out; omega
              have n3 : R0 ≠ ba := by have := HR0.out; omega
              have n4 : R0 ≠ bb := by have := HR0.out; omega
              have Hbel := hid hbel; clear hbel
              clear d1 d2 d3 d4 ra rb
              go_region_held3 (fun w' => w'.cell? ⟨w.heap.size, i, none⟩ = some (.slice (some ⟨R0, 0, none⟩) (lb + 1) (lb + 1)) ∧ w'.cell? ⟨w.heap.size, i + 1, none⟩ = some (.slice (some ⟨R1, 0, none⟩) (lb + 1) (lb + 1)) ∧
                  w'.cell? ⟨R1, k + 1, none⟩ = some (.int .i64 x) ∧ w'.cell? ⟨R1, k, none⟩ = some (.int .i64 y) ∧ w'.cell? ⟨R0, k + 1, none⟩ = some (.int .i64 z) ∧ w'.cell? ⟨ba, oa + i, none⟩ = some (.int .i64 (nth a i)) ∧ w'.cell? ⟨bb, ob + k, none⟩ = some (.int .i64 (nth b k)))
                (first | exact ⟨o1, p1, p2, p3, p4, p5, p6⟩ | exact ⟨cell_set_far o1 (.inl n1), cell_set_far p1 (.inl n1), cell_set_far p2 (.inl n2), cell_set_far p3 (.inl n2), cell_set_far p4 (.inr (by omega)), cell_set_far p5 (.inl n3), cell_set_far p6 (.inl n4)⟩)
                (first | (go_at_call 29; (with_reducible refine (both_any _ _ _).mono ?_); rw [← Hu.out]; rintro e w' ⟨rfl, rfl⟩))
              have hval : (if 2 + (z : Int) < if 2 + (y : Int) < (u : Int) + x then 2 + (y : Int) else (u : Int) + x then 2 + (z : Int) else if 2 + (y : Int) < (u : Int) + x then 2 + (y : Int) else (u : Int) + x) = (Dat a b i k : Int) := by
                rw [Hst.out]; split <;> split <;> omega
              have Hval := hid hval; clear hval
              go_wp2_with fail
              go_roundw
              case rel => exact ⟨k, by omega, by go_num, by simpa [World.setCell] using Hsz2.out, by rw [Hval.out, HR0.out]; exact (Htab.out.put (by omega)).drew, by rw [HR0.out]; exact (Hbel.out.setCell (by simp; omega) _).drew⟩
              case measure => simp [intOf]
end Go.Proofs.Ytaoddenadfmdbaa
