/- PROVED: ostraconlaw02.GroupsInOrder returns true for every paper, and whatever is put in, and what it is given reads as before. Conditions: none. -/
import Derived.Test.YtddbnggficlcfaaRight
import Derived.Test.YtddbnggficlcfaaKidsLaw
import Derived.Test.YtddbnggficlcfaaSplLaw
import Derived.Test.YtddbnggficlcfaaMarks
import Derived.Test.YtddbnggficlcfaaLinesLaw
import Derived.Test.YtddbnggficlcfaaRowP
namespace Go.Proofs.Ytddbnggficlcfaa
open Go.RowKit
theorem flatM_one {l : List Mk} {u : Value} (h : u ∈ flatM l) : u.oneCell' = true := by
  unfold flatM at h
  obtain ⟨n, _, h2⟩ := List.mem_flatMap.1 h
  simp only [Mk.cells, List.mem_cons, List.not_mem_nil, or_false] at h2
  rcases h2 with rfl | rfl | rfl | rfl <;> rfl
/-- Marks that grow in a row of their own. -/
structure OutM (B : Nat) (w : World) (L : List Mk) (v : Value) (W : World) : Prop where
  own : W.ownsRow B 70 4 v L.length (flatM L)
  bel : Below B w W
theorem OutM.below {B : Nat} {w W W' : World} {L : List Mk} {v : Value} (h : OutM B w L v W) (hb : Below W.heap.size W W') (hB : B ≤ W.heap.size) : OutM B w L v W' :=
  ⟨own_keep h.own hb, h.bel.trans (hb.mono hB)⟩
theorem OutM.start (w : World) : OutM w.heap.size w [] (.slice none 0 0) w := ⟨World.ownsRow_nil _ _ _ _, Below.refl _ _⟩
theorem OutM.stepL {B n m : Nat} {w W w4 : World} {L T : List Mk} {v v4 : Value} (h : OutM B w L v W) (hB : B ≤ W.heap.size) (hn : n = L.length) (hm : m = T.length) (ho : w4.ownsRow B 70 4 v4 (n + m) (flatM L ++ flatM T)) (hg : W.grownBy w4 v.ownBlock) : OutM B w (L ++ T) v4 w4 := by
  subst hn hm
  refine ⟨?_, below_app h.bel h.own hg (Nat.le_refl _) hB⟩
  rw [List.length_append, flatM_app]
  exact ho
theorem mkR_len {l wt : List Nd} {fr t2 : Int} (hl : l.length ≤ 210) (hw : wt.length ≤ 210) : ∀ k, (mkR l wt fr t2 k).length ≤ 420 * k
  | 0 => by simp [mkR]
  | i + 1 => by
    have h1 := mkR_len (fr := fr) (t2 := t2) hl hw i
    have h2 := marks_len wt
    have h3 := marks_len (partOf l (posG l i))
    have h4 : i < (kidsOf l (-1)).length → (partOf l (posG l i)).length ≤ l.length := fun h => by rw [partOf_len (posG_lt h)]; have := endOf_le (posG_lt h); omega
    have h5 : (if (i : Int) = fr then mkR l wt fr t2 i ++ marks wt else mkR l wt fr t2 i).length ≤ 420 * i + 210 := by
      split
      · rw [List.length_append]; omega
      · omega
    have h6 : (if i < (kidsOf l (-1)).length ∧ ((i : Int) < fr ∨ t2 ≤ i) then marks (partOf l (posG l i)) else []).length ≤ 210 := by
      split
      · rename_i h; have := h4 h.1; omega
      · simp
    rw [mkR, List.length_append]
    omega
theorem spE_zero {P : Int} {ss : List Sg} {l t : List Nd} {fr t2 : Int} (h1 : chkE P ss l = 0) (h2 : chkE P ss t = 0) (h : spE P ss l t fr t2 = 0) : ∃ f g : Nat, fr = f ∧ t2 = g ∧ f ≤ g ∧ g ≤ (kidsOf l (-1)).length ∧ spL P ss l t fr t2 = spO l t f g ∧ chkE P ss (spO l t f g) = 0 ∧ marks (spO l t f g) = mkR l t fr t2 ((kidsOf l (-1)).length + 1) := by
  have hk := sp_c (P := P) (ss := ss) (l := l) (wt := t) (fr := fr) (t2 := t2) h1 h2
  by_cases h3 : fr < 0 ∨ t2 < fr ∨ ((kidsOf l (-1)).length : Int) < t2
  · have := (hk.1 h3).2; omega
  have h4 := hk.2 h3
  by_cases h5 : 200 < (spO l t fr.toNat t2.toNat).length
  · have := (h4.1 h5).2; omega
  obtain ⟨f, rfl⟩ : ∃ f : Nat, fr = f := ⟨fr.toNat, by omega⟩
  obtain ⟨g, rfl⟩ : ∃ g : Nat, t2 = g := ⟨t2.toNat, by omega⟩
  rw [Int.toNat_natCast, Int.toNat_natCast] at h4 h5
  obtain ⟨a1, a2⟩ := spO_marks (val_of h1).2.2 (val_of h2).2.2 (f := f) (t := g) (by omega) (by omega)
  exact ⟨f, g, rfl, rfl, by omega, by omega, (h4.2 h5).1, of_val (val_of h1).1 (by omega) a1, a2⟩
set_option maxRecDepth 100000 in
set_option maxHeartbeats 16000000 in
theorem ino_law (P : Int) (ss : List Sg) (l : List Nd) (fr t2 : Int) (t : List Nd) (A5 : Option Addr) (c5 : Nat) (A A2 : Option Addr) (c c2 : Nat) (hl : ss.length ≤ 9223372036854775807) (hv : ∀ s ∈ ss, s.vals.length ≤ 9223372036854775807) (w : World) (rs : Sgs w w.heap.size A ss) (rn : Nds w w.heap.size A2 l) (rt : Nds w w.heap.size A5 t) :
    Calls Try.prog 11 #[.agg #[.int .i64 P, .slice A ss.length c, .slice A2 l.length c2], .agg #[.int .i64 fr, .int .i64 t2, .slice A5 t.length c5]] w fun e w' => e = .returned (.bool true) ∧ Below w.heap.size w w' := by
  obtain ⟨r1, hr1⟩ : ∃ x : Bool, (x = true ↔ (¬ BigP ss l ∧ chkE P ss l = 0)) := by
    by_cases h : (¬ BigP ss l ∧ chkE P ss l = 0)
    · exact ⟨true, iff_of_true rfl h⟩
    · exact ⟨false, iff_of_false (by simp) h⟩
  obtain ⟨r2, hr2⟩ : ∃ x : Bool, (x = true ↔ (¬ BigP ss t ∧ chkE P ss t = 0)) := by
    by_cases h : (¬ BigP ss t ∧ chkE P ss t = 0)
    · exact ⟨true, iff_of_true rfl h⟩
    · exact ⟨false, iff_of_false (by simp) h⟩
  obtain ⟨w1, hw1⟩ : ∃ w1, w1 = ((w.alloc (.cells #[.int .i64 P, .slice A ss.length c, .slice A2 l.length c2] 29)).alloc (.cells #[.int .i64 fr, .int .i64 t2, .slice A5 t.length c5] 57)).alloc (.cells #[.int .i64 P, .slice A ss.length c, .slice A5 t.length c5] 29) := ⟨_, rfl⟩
  have hb1 : Below w.heap.size w w1 := by rw [hw1]; exact (((Below.refl _ _).alloc (Nat.le_refl _) _).alloc (by simp) _).alloc (by simp; omega) _
  have hz3 : w.heap.size + 2 < w1.heap.size := by rw [hw1]; simp
  have c0 : w1.cell? ⟨w.heap.size, 0, none⟩ = some (.int .i64 P) := by rw [hw1]; exact cell_old (cell_old (cell_here rfl rfl))
  have c1 : w1.cell? ⟨w.heap.size, 1, none⟩ = some (.slice A ss.length c) := by rw [hw1]; exact cell_old (cell_old (cell_here rfl rfl))
  have c3 : w1.cell? ⟨w.heap.size, 2, none⟩ = some (.slice A2 l.length c2) := by rw [hw1]; exact cell_old (cell_old (cell_here rfl rfl))
  have c6 : w1.cell? ⟨w.heap.size + 1, 0, none⟩ = some (.int .i64 fr) := by rw [hw1]; exact cell_old (cell_here (by simp) rfl)
  have c7 : w1.cell? ⟨w.heap.size + 1, 1, none⟩ = some (.int .i64 t2) := by rw [hw1]; exact cell_old (cell_here (by simp) rfl)
  have d0 : w1.cell? ⟨w.heap.size + 2, 0, none⟩ = some (.int .i64 P) := by rw [hw1]; exact cell_here (by simp) rfl
  have d1 : w1.cell? ⟨w.heap.size + 2, 1, none⟩ = some (.slice A ss.length c) := by rw [hw1]; exact cell_here (by simp) rfl
  have d3 : w1.cell? ⟨w.heap.size + 2, 2, none⟩ = some (.slice A5 t.length c5) := by rw [hw1]; exact cell_here (by simp) rfl
  have HRP := hid ((rightP_any P ss l A A2 c c2 hl hv w1 ((rs.below hb1).more hb1.size) ((rn.below hb1).more hb1.size)).mono fun e w' hb => hb.get hr1)
  have HRQ := hid fun (W : World) (h : Below w1.heap.size w1 W) => ((rightP_any P ss t A A5 c c5 hl hv W ((rs.below (hb1.trans (h.mono hb1.size))).more (Nat.le_trans hb1.size h.size)) ((rt.below (hb1.trans (h.mono hb1.size))).more (Nat.le_trans hb1.size h.size))).mono fun e w' hb => hb.get hr2)
  have hE0 := fun (hck : chkE P ss l = 0) (hck2 : chkE P ss t = 0) (h : spE P ss l t fr t2 = 0) => spE_zero hck hck2 h
  have hk1 := spL_len (P := P) (ss := ss) (l := l) (wt := t) (fr := fr) (t2 := t2)
  have hF1 := fun (s1 : ss.length ≤ 30) (s2 : l.length ≤ 210) (s3 : ∀ s ∈ ss, s.vals.length ≤ 20) (ht : t.length ≤ 210) (ss' : List Sg) (A3 A4 A6 : Option Addr) (c3 c4 c6 : Nat) (W : World) (hp : Copies ss l ss' A3 A4 c3 c4 W) (rt : Nds W W.heap.size A6 t) =>
    (by have := spliceE_any P ss' l t fr t2 (by rw [hp.len]; omega) (hp.vals s3) (by omega) (by omega) A3 A4 A6 c3 c4 c6 W hp.sg hp.nd rt hp.room; rw [(spE_core hp.core l t fr t2).1, (spE_core hp.core l t fr t2).2] at this; exact this.mono fun e w' h => txt_own h : Calls Try.prog 37 #[.agg #[.int .i64 P, .slice A3 ss'.length c3], .agg #[.slice A4 l.length c4], .int .i64 fr, .int .i64 t2, .agg #[.slice A6 t.length c6]] W fun e w' => ∃ (A' : Option Addr) (c' : Nat), e = .returned (.tuple #[.agg #[.slice A' (spL P ss l t fr t2).length c'], .int .i64 (spE P ss l t fr t2)]) ∧ w'.ownsRow W.heap.size 78 8 (.slice A' (spL P ss l t fr t2).length c') (spL P ss l t fr t2).length (flatN (spL P ss l t fr t2)) ∧ Below W.heap.size W w')
  have hFS := fun (s1 : ss.length ≤ 30) (s2 : l.length ≤ 210) (s3 : ∀ s ∈ ss, s.vals.length ≤ 20) (hck : chkE P ss l = 0) (i : Nat) (hi : i < (kidsOf l (-1)).length) (ss' : List Sg) (A3 A4 : Option Addr) (c3 c4 : Nat) (W : World) (hp : Copies ss l ss' A3 A4 c3 c4 W) (h : Below w1.heap.size w1 W) =>
    (by
      have := subE_any P ss' l (posG l i : Int) (by rw [hp.len]; omega) (hp.vals s3) (by omega) A3 A4 c3 c4 W hp.sg hp.nd hp.room
      have hlt := posG_lt (l := l) hi
      have hk := (subL_ok (P := P) (ss := ss) (l := l) (node := (posG l i : Int)) hck).2 (by omega)
      rw [(subE_core hp.core l _).1, (subE_core hp.core l _).2, hk.1, hk.2, Int.toNat_natCast] at this
      exact this.mono fun e w' hx => txt_own hx : Calls Try.prog 43 #[.agg #[.int .i64 P, .slice A3 ss'.length c3], .agg #[.slice A4 l.length c4], .int .i64 (posG l i : Int)] W fun e w' => ∃ (A' : Option Addr) (c' : Nat), e = .returned (.tuple #[.agg #[.slice A' (partOf l (posG l i)).length c'], .int .i64 0]) ∧ w'.ownsRow W.heap.size 78 8 (.slice A' (partOf l (posG l i)).length c') (partOf l (posG l i)).length (flatN (partOf l (posG l i))) ∧ Below W.heap.size W w')
  have hFL := fun (s1 : ss.length ≤ 30) (s3 : ∀ s ∈ ss, s.vals.length ≤ 20) (T : List Nd) (hT : T.length ≤ 210) (hck : chkE P ss T = 0) (ss' : List Sg) (A3 A4 : Option Addr) (c3 c4 : Nat) (W : World) (hs : LCopy ss ss' 0 A3 c3 W) (ht : Nds W W.heap.size A4 T) =>
    (by
      have := lineE_any P ss' T (by rw [core_len hs.core]; omega) (fun s h => ⟨Nat.le_trans (vals_core hs.core s3 s h) (by decide), hs.cap s h⟩) (by omega) A3 A4 c3 c4 W hs.sgs ht
      rw [chkE_core hs.core T, linL_core hs.core T, linL_ok hck, hck] at this
      exact this.mono fun e w' hx => mks_out hx : Calls Try.prog 28 #[.agg #[.int .i64 P, .slice A3 ss'.length c3], .agg #[.slice A4 T.length c4]] W fun e w' => ∃ (A' : Option Addr) (c' : Nat), e = .returned (.tuple #[.slice A' (marks T).length c', .int .i64 0]) ∧ Mks w' w'.heap.size A' (marks T) ∧ Below W.heap.size W w')
  have hRG := fun (s1 : ss.length ≤ 30) (s2 : l.length ≤ 210) (s3 : ∀ s ∈ ss, s.vals.length ≤ 20) (hck : chkE P ss l = 0) (W : World) (h : Below w1.heap.size w1 W) =>
    (by have := refGroups_any P ss l (by omega) (fun s hs => by have := s3 s hs; omega) (by omega) A A2 c c2 W ((rs.below (hb1.trans (h.mono hb1.size))).more (Nat.le_trans hb1.size h.size)) ((rn.below (hb1.trans (h.mono hb1.size))).more (Nat.le_trans hb1.size h.size))
        rw [hck, show grpL P ss l = nz (kidsOf l (-1)) from if_pos hck] at this
        exact this.mono fun e w' hx => ints_out hx : Calls Try.prog 26 #[.agg #[.int .i64 P, .slice A ss.length c], .agg #[.slice A2 l.length c2]] W fun e w' => ∃ (A' : Option Addr) (c' : Nat), e = .returned (.tuple #[.slice A' (nz (kidsOf l (-1))).length c', .int .i64 0]) ∧ Rd w' w'.heap.size A' (nz (kidsOf l (-1))) ∧ Below W.heap.size W w')
  have hML := fun (s2 : l.length ≤ 210) (ht : t.length ≤ 210) (k : Nat) => mkR_len (l := l) (wt := t) (fr := fr) (t2 := t2) s2 ht k
  have hMS := fun (k : Nat) => (show mkR l t fr t2 (k + 1) = _ from rfl)
  obtain ⟨E1, hE1⟩ : ∃ E, E = spE P ss l t fr t2 := ⟨_, rfl⟩
  obtain ⟨L1, hL1⟩ : ∃ L, L = spL P ss l t fr t2 := ⟨_, rfl⟩
  rw [← hE1, ← hL1] at hF1
  rw [← hE1, ← hL1] at hE0
  rw [← hL1] at hk1
  clear hE1 hL1
  have hrs := rs; have hrn := rn; have hrt := rt
  obtain ⟨N, hN⟩ : ∃ N, N = ss.length := ⟨_, rfl⟩
  obtain ⟨n, hn⟩ : ∃ n, n = l.length := ⟨_, rfl⟩
  obtain ⟨nt, hnt⟩ : ∃ n, n = t.length := ⟨_, rfl⟩
  rw [← hN] at c1 d1 hw1 HRP HRQ ⊢
  rw [← hn] at c3 hw1 HRP ⊢
  rw [← hnt] at d3 hw1 HRQ ⊢
  have HW1 := hid hw1; have HB1 := hid hb1; have HR1 := hid hr1; have HR2 := hid hr2; have HNN := hid hN; have HNl := hid hn; have HNT := hid hnt; have HRS := hid hrs; have HRN := hid hrn; have HRT := hid hrt
  have HF1 := hid hF1; have HFS := hid hFS; have HFL := hid hFL; have HRG := hid hRG; have HML := hid hML; have HMS := hid hMS; have HE0 := hid hE0; have HK1 := hid hk1
  have HW : Hid (∀ wr, Below w1.heap.size w1 wr → Below w.heap.size w wr) := fun wr h => hb1.trans (h.mono (by omega))
  have HWK := hid fun (W : World) => works_any W
  have HC0 := hid fun (wr : World) (h : Below w1.heap.size w1 wr) => (h.cell (p := ⟨w.heap.size, 0, none⟩) (show w.heap.size < _ by omega)).trans c0
  have HC1 := hid fun (wr : World) (h : Below w1.heap.size w1 wr) => (h.cell (p := ⟨w.heap.size, 1, none⟩) (show w.heap.size < _ by omega)).trans c1
  have HC3 := hid fun (wr : World) (h : Below w1.heap.size w1 wr) => (h.cell (p := ⟨w.heap.size, 2, none⟩) (show w.heap.size < _ by omega)).trans c3
  have HC6 := hid fun (wr : World) (h : Below w1.heap.size w1 wr) => (h.cell (p := ⟨w.heap.size + 1, 0, none⟩) (show w.heap.size + 1 < _ by omega)).trans c6
  have HC7 := hid fun (wr : World) (h : Below w1.heap.size w1 wr) => (h.cell (p := ⟨w.heap.size + 1, 1, none⟩) (show w.heap.size + 1 < _ by omega)).trans c7
  have HD0 := hid fun (wr : World) (h : Below w1.heap.size w1 wr) => (h.cell (p := ⟨w.heap.size + 2, 0, none⟩) hz3).trans d0
  have HD1 := hid fun (wr : World) (h : Below w1.heap.size w1 wr) => (h.cell (p := ⟨w.heap.size + 2, 1, none⟩) hz3).trans d1
  have HD3 := hid fun (wr : World) (h : Below w1.heap.size w1 wr) => (h.cell (p := ⟨w.heap.size + 2, 2, none⟩) hz3).trans d3
  clear hw1 rs rn rt hr1 hr2 hN hn hnt hv hl hb1 hrs hrn hrt hF1 hFS hFL hRG hML hMS hE0 hk1
  go_enter Try.func11, Try.ntmps11
  go_upto_region 2 with (fail)
  simp only [Nat.add_assoc, Nat.reduceAdd]
  rw [← HW1.out]
  clear HW1
  obtain ⟨B0, hB0⟩ : ∃ B0, B0 = w.heap.size := ⟨_, rfl⟩
  obtain ⟨B1, hB1⟩ : ∃ B1, B1 = B0 + 1 := ⟨_, rfl⟩
  obtain ⟨B2, hB2⟩ : ∃ B2, B2 = B0 + 2 := ⟨_, rfl⟩
  rw [← hB0, ← hB1] at c6 c7 HC6 HC7
  rw [← hB0, ← hB2] at d0 d1 d3 HD0 HD1 HD3
  rw [← hB0] at c0 c1 c3 HC0 HC1 HC3 hz3
  rw [← hB2] at hz3
  have hB01 : B0 < B1 := by omega
  have hB12 : B1 < B2 := by omega
  rw [← hB0, ← hB1, ← hB2]
  clear hB0 hB1 hB2
  have hwk := HWK.out
  cases r1 with
  | false =>
    go_wp2_with (first | (go_at_call 49; refine HRP.out.mono ?_; rintro e w2 ⟨rfl, hb2⟩; have HB2 := hid hb2; clear hb2 c0 c1 c3 c6 c7 d0 d1 d3) | (go_at_call 16; refine (HWK.out _).mono ?_; rintro e w4 ⟨rfl, hb4⟩; have HB4 := hid (bnext HB2.out hb4); clear hb4))
    go_ret
    exact ⟨rfl, HW.out _ HB4.out⟩
  | true =>
    obtain ⟨hbp, hck⟩ := HR1.out.1 (by simp)
    obtain ⟨s1, s2, s3⟩ := small_of hbp
    cases r2 with
    | false =>
      go_wp2_with (first | (go_at_call 49; refine HRP.out.mono ?_; rintro e w2 ⟨rfl, hb2⟩; have HB2 := hid hb2; have e0 := HD0.out _ hb2; have e1 := HD1.out _ hb2; have e3 := HD3.out _ hb2; clear hb2 c0 c1 c3 c6 c7 d0 d1 d3 HRP) | (go_at_call 49; refine (HRQ.out w2 HB2.out).mono ?_; rintro e w3 ⟨rfl, hb3⟩; have HB3 := hid (bnext HB2.out hb3); clear hb3 e0 e1 e3 HRQ) | (go_at_call 16; refine (HWK.out _).mono ?_; rintro e w4 ⟨rfl, hb4⟩; have HB4 := hid (bnext HB3.out hb4); clear hb4))
      go_ret
      exact ⟨rfl, HW.out _ HB4.out⟩
    | true =>
      obtain ⟨hbq, hck2⟩ := HR2.out.1 (by simp)
      obtain ⟨_, s4, _⟩ := small_of hbq
      have HLI := hid fun (W : World) (h : Below w1.heap.size w1 W) => list_at (P := P) (c := c) (V := .slice A2 n c2) s1 s3 (HW.out _ (Below.refl _ _)) HRS.out W h
      have HTX := hid fun (W : World) (h : Below w1.heap.size w1 W) => text_at (P := P) (A := A) (N := N) (c := c) (c2 := c2) s2 (HW.out _ (Below.refl _ _)) HRN.out W h
      have HTQ := hid fun (W : World) (h : Below w1.heap.size w1 W) => text_at (P := P) (A := A) (N := N) (c := c) (c2 := c5) s4 (HW.out _ (Below.refl _ _)) HRT.out W h
      rw [← HNN.out] at HLI
      rw [← HNl.out] at HTX
      rw [← HNT.out] at HTQ
      replace HF1 := hid (HF1.out s1 s2 s3 s4); replace HFS := hid (HFS.out s1 s2 s3 hck); replace HFL := hid (HFL.out s1 s3); replace HRG := hid (HRG.out s1 s2 s3 hck); replace HML := hid (HML.out s2 s4); replace HE0 := hid (HE0.out hck hck2)
      have HLT := hid (HFL.out t s4 hck2)
      rw [← HNl.out, ← HNT.out] at HF1
      rw [← HNl.out] at HFS
      rw [← HNT.out] at HLT
      rw [← HNN.out, ← HNl.out] at HRG
      have hk1 := HK1.out
      obtain ⟨n1, hn1⟩ : ∃ n1, n1 = L1.length := ⟨_, rfl⟩
      rw [← hn1] at HF1 hk1
      have HN1 := hid hn1
      have hs1 : n1 ≤ 1000000 := by omega
      have HCK := hid hck; have HCK2 := hid hck2; have HS1 := hid s1; have HS2 := hid s2; have HS3 := hid s3; have HS4 := hid s4
      clear hk1 hn1 hbp hbq hck hck2 s1 s2 s3 s4 HK1
      go_upto_region 4 with (first | (go_at_call 49; refine HRP.out.mono ?_; rintro e w2 ⟨rfl, hb2⟩; have HB2 := hid hb2; have e0 := HD0.out _ hb2; have e1 := HD1.out _ hb2; have e3 := HD3.out _ hb2; clear hb2 c0 c1 c3 c6 c7 d0 d1 d3 HRP) | (go_at_call 49; refine (HRQ.out w2 HB2.out).mono ?_; rintro e w3 ⟨rfl, hb3⟩; have HB3 := hid (bnext HB2.out hb3); clear hb3 e0 e1 e3 HRQ))
      go_cut [6, 7] (fun s3 s4 wx => ∃ (b : Nat) (A' : Option Addr) (c' : Nat), s3 = .pointer (some ⟨b, 0, none⟩) ∧ s4 = .int .i64 E1 ∧ Hid (Bx wx b (.slice A' n1 c')) ∧ Hid (Nds wx wx.heap.size A' L1) ∧ Hid (Below w3.heap.size w3 wx))
      case first =>
        have q0 := HC0.out w3 HB3.out; have q1 := HC1.out w3 HB3.out; have q3 := HC3.out w3 HB3.out; have q6 := HC6.out w3 HB3.out; have q7 := HC7.out w3 HB3.out; have e0 := HD0.out w3 HB3.out; have e1 := HD1.out w3 HB3.out; have e3 := HD3.out w3 HB3.out
        have hsb : w1.heap.size ≤ w3.heap.size := HB3.out.size
        go_region_held3 (fun w' => w'.cell? ⟨B0, 0, none⟩ = some (.int .i64 P) ∧ w'.cell? ⟨B0, 1, none⟩ = some (.slice A N c) ∧ w'.cell? ⟨B0, 2, none⟩ = some (.slice A2 n c2) ∧ w'.cell? ⟨B1, 0, none⟩ = some (.int .i64 fr) ∧ w'.cell? ⟨B1, 1, none⟩ = some (.int .i64 t2) ∧ w'.cell? ⟨B2, 0, none⟩ = some (.int .i64 P) ∧ w'.cell? ⟨B2, 1, none⟩ = some (.slice A N c) ∧ w'.cell? ⟨B2, 2, none⟩ = some (.slice A5 nt c5)) (first | exact ⟨q0, q1, q3, q6, q7, e0, e1, e3⟩ | exact ⟨HC0.out _ (bnext HB3.out (by first | exact HX43.out | exact bal HX43.out _ | exact HX42.out | exact bal HX42.out _ | exact HX41.out | exact bal HX41.out _ | exact HX40.out | exact bal HX40.out _ | exact (Below.refl _ _).drew | exact bal (Below.refl _ _).drew _ | exact (bal (Below.refl _ _) _).drew | exact Below.refl _ _ | exact bal (Below.refl _ _) _ | exact bst HX42.out HX41.out.size _ | exact bst HX42.out HX43.out.size _ | exact bst HX42.out HX40.out.size _ | exact bst HX42.out HX42.out.size _ | exact bst HX42.out (Nat.le_refl _) _)), HC1.out _ (bnext HB3.out (by first | exact HX43.out | exact bal HX43.out _ | exact HX42.out | exact bal HX42.out _ | exact HX41.out | exact bal HX41.out _ | exact HX40.out | exact bal HX40.out _ | exact (Below.refl _ _).drew | exact bal (Below.refl _ _).drew _ | exact (bal (Below.refl _ _) _).drew | exact Below.refl _ _ | exact bal (Below.refl _ _) _ | exact bst HX42.out HX41.out.size _ | exact bst HX42.out HX43.out.size _ | exact bst HX42.out HX40.out.size _ | exact bst HX42.out HX42.out.size _ | exact bst HX42.out (Nat.le_refl _) _)), HC3.out _ (bnext HB3.out (by first | exact HX43.out | exact bal HX43.out _ | exact HX42.out | exact bal HX42.out _ | exact HX41.out | exact bal HX41.out _ | exact HX40.out | exact bal HX40.out _ | exact (Below.refl _ _).drew | exact bal (Below.refl _ _).drew _ | exact (bal (Below.refl _ _) _).drew | exact Below.refl _ _ | exact bal (Below.refl _ _) _ | exact bst HX42.out HX41.out.size _ | exact bst HX42.out HX43.out.size _ | exact bst HX42.out HX40.out.size _ | exact bst HX42.out HX42.out.size _ | exact bst HX42.out (Nat.le_refl _) _)), HC6.out _ (bnext HB3.out (by first | exact HX43.out | exact bal HX43.out _ | exact HX42.out | exact bal HX42.out _ | exact HX41.out | exact bal HX41.out _ | exact HX40.out | exact bal HX40.out _ | exact (Below.refl _ _).drew | exact bal (Below.refl _ _).drew _ | exact (bal (Below.refl _ _) _).drew | exact Below.refl _ _ | exact bal (Below.refl _ _) _ | exact bst HX42.out HX41.out.size _ | exact bst HX42.out HX43.out.size _ | exact bst HX42.out HX40.out.size _ | exact bst HX42.out HX42.out.size _ | exact bst HX42.out (Nat.le_refl _) _)), HC7.out _ (bnext HB3.out (by first | exact HX43.out | exact bal HX43.out _ | exact HX42.out | exact bal HX42.out _ | exact HX41.out | exact bal HX41.out _ | exact HX40.out | exact bal HX40.out _ | exact (Below.refl _ _).drew | exact bal (Below.refl _ _).drew _ | exact (bal (Below.refl _ _) _).drew | exact Below.refl _ _ | exact bal (Below.refl _ _) _ | exact bst HX42.out HX41.out.size _ | exact bst HX42.out HX43.out.size _ | exact bst HX42.out HX40.out.size _ | exact bst HX42.out HX42.out.size _ | exact bst HX42.out (Nat.le_refl _) _)), HD0.out _ (bnext HB3.out (by first | exact HX43.out | exact bal HX43.out _ | exact HX42.out | exact bal HX42.out _ | exact HX41.out | exact bal HX41.out _ | exact HX40.out | exact bal HX40.out _ | exact (Below.refl _ _).drew | exact bal (Below.refl _ _).drew _ | exact (bal (Below.refl _ _) _).drew | exact Below.refl _ _ | exact bal (Below.refl _ _) _ | exact bst HX42.out HX41.out.size _ | exact bst HX42.out HX43.out.size _ | exact bst HX42.out HX40.out.size _ | exact bst HX42.out HX42.out.size _ | exact bst HX42.out (Nat.le_refl _) _)), HD1.out _ (bnext HB3.out (by first | exact HX43.out | exact bal HX43.out _ | exact HX42.out | exact bal HX42.out _ | exact HX41.out | exact bal HX41.out _ | exact HX40.out | exact bal HX40.out _ | exact (Below.refl _ _).drew | exact bal (Below.refl _ _).drew _ | exact (bal (Below.refl _ _) _).drew | exact Below.refl _ _ | exact bal (Below.refl _ _) _ | exact bst HX42.out HX41.out.size _ | exact bst HX42.out HX43.out.size _ | exact bst HX42.out HX40.out.size _ | exact bst HX42.out HX42.out.size _ | exact bst HX42.out (Nat.le_refl _) _)), HD3.out _ (bnext HB3.out (by first | exact HX43.out | exact bal HX43.out _ | exact HX42.out | exact bal HX42.out _ | exact HX41.out | exact bal HX41.out _ | exact HX40.out | exact bal HX40.out _ | exact (Below.refl _ _).drew | exact bal (Below.refl _ _).drew _ | exact (bal (Below.refl _ _) _).drew | exact Below.refl _ _ | exact bal (Below.refl _ _) _ | exact bst HX42.out HX41.out.size _ | exact bst HX42.out HX43.out.size _ | exact bst HX42.out HX40.out.size _ | exact bst HX42.out HX42.out.size _ | exact bst HX42.out (Nat.le_refl _) _))⟩ | fail) (first | (go_at_call 17; refine (HLI.out _ (bnext HB3.out (by first | exact HX43.out | exact bal HX43.out _ | exact HX42.out | exact bal HX42.out _ | exact HX41.out | exact bal HX41.out _ | exact HX40.out | exact bal HX40.out _ | exact (Below.refl _ _).drew | exact bal (Below.refl _ _).drew _ | exact (bal (Below.refl _ _) _).drew | exact Below.refl _ _ | exact bal (Below.refl _ _) _ | exact bst HX42.out HX41.out.size _ | exact bst HX42.out HX43.out.size _ | exact bst HX42.out HX40.out.size _ | exact bst HX42.out HX42.out.size _ | exact bst HX42.out (Nat.le_refl _) _))).mono ?_; rintro e w40 ⟨A40, c40, ss40, rfl, hl40, hb40⟩; have HL40 := hid hl40; have HX40 := hid (show Below w3.heap.size w3 w40 from bnext (by first | exact HX43.out | exact bal HX43.out _ | exact HX42.out | exact bal HX42.out _ | exact HX41.out | exact bal HX41.out _ | exact HX40.out | exact bal HX40.out _ | exact (Below.refl _ _).drew | exact bal (Below.refl _ _).drew _ | exact (bal (Below.refl _ _) _).drew | exact Below.refl _ _ | exact bal (Below.refl _ _) _ | exact bst HX42.out HX41.out.size _ | exact bst HX42.out HX43.out.size _ | exact bst HX42.out HX40.out.size _ | exact bst HX42.out HX42.out.size _ | exact bst HX42.out (Nat.le_refl _) _) hb40); (first | (have bf := hid (Bxf.kept bf.out hb40); skip) | (have bf := hid (Bxf.kept (Bxf.new (w := w3) (b := w3.heap.size) rfl) hb40)) | (have bf := hid (Bxf.kept (Bxf.new (w := w3.drew) (b := w3.heap.size) rfl) hb40)) | skip); clear hl40 hb40) | (go_at_call 18; refine (HTX.out _ (bnext HB3.out (by first | exact HX43.out | exact bal HX43.out _ | exact HX42.out | exact bal HX42.out _ | exact HX41.out | exact bal HX41.out _ | exact HX40.out | exact bal HX40.out _ | exact (Below.refl _ _).drew | exact bal (Below.refl _ _).drew _ | exact (bal (Below.refl _ _) _).drew | exact Below.refl _ _ | exact bal (Below.refl _ _) _ | exact bst HX42.out HX41.out.size _ | exact bst HX42.out HX43.out.size _ | exact bst HX42.out HX40.out.size _ | exact bst HX42.out HX42.out.size _ | exact bst HX42.out (Nat.le_refl _) _))).mono ?_; rintro e w41 ⟨A41, c41, rfl, ho41, hb41⟩; have HP41 := hid (Copies.mk' (c4 := c41) HL40.out (bnext (by first | exact Below.refl _ _ | exact bal (Below.refl _ _) _) hb41) (by rw [← HNl.out]; exact ho41)); have HX41 := hid (show Below w3.heap.size w3 w41 from bnext (by first | exact HX43.out | exact bal HX43.out _ | exact HX42.out | exact bal HX42.out _ | exact HX41.out | exact bal HX41.out _ | exact HX40.out | exact bal HX40.out _ | exact (Below.refl _ _).drew | exact bal (Below.refl _ _).drew _ | exact (bal (Below.refl _ _) _).drew | exact Below.refl _ _ | exact bal (Below.refl _ _) _ | exact bst HX42.out HX41.out.size _ | exact bst HX42.out HX43.out.size _ | exact bst HX42.out HX40.out.size _ | exact bst HX42.out HX42.out.size _ | exact bst HX42.out (Nat.le_refl _) _) hb41); (first | (have bf := hid (Bxf.kept bf.out hb41); skip) | (have bf := hid (Bxf.kept (Bxf.new (w := w40) (b := w40.heap.size) rfl) hb41)) | (have bf := hid (Bxf.kept (Bxf.new (w := w40.drew) (b := w40.heap.size) rfl) hb41)) | skip); clear ho41 hb41) | (go_at_call 18; refine (HTQ.out _ (bnext HB3.out (by first | exact HX43.out | exact bal HX43.out _ | exact HX42.out | exact bal HX42.out _ | exact HX41.out | exact bal HX41.out _ | exact HX40.out | exact bal HX40.out _ | exact (Below.refl _ _).drew | exact bal (Below.refl _ _).drew _ | exact (bal (Below.refl _ _) _).drew | exact Below.refl _ _ | exact bal (Below.refl _ _) _ | exact bst HX42.out HX41.out.size _ | exact bst HX42.out HX43.out.size _ | exact bst HX42.out HX40.out.size _ | exact bst HX42.out HX42.out.size _ | exact bst HX42.out (Nat.le_refl _) _))).mono ?_; rintro e w43 ⟨A43, c43, rfl, ho43, hb43⟩; have HT43 := hid (show Nds w43 w43.heap.size A43 t from Reads.of_own (by rw [← HNT.out]; exact ho43)); have HP43 := hid (HP41.out.below (bnext (by first | exact Below.refl _ _ | exact bal (Below.refl _ _) _) hb43)); have HX43 := hid (show Below w3.heap.size w3 w43 from bnext (by first | exact HX43.out | exact bal HX43.out _ | exact HX42.out | exact bal HX42.out _ | exact HX41.out | exact bal HX41.out _ | exact HX40.out | exact bal HX40.out _ | exact (Below.refl _ _).drew | exact bal (Below.refl _ _).drew _ | exact (bal (Below.refl _ _) _).drew | exact Below.refl _ _ | exact bal (Below.refl _ _) _ | exact bst HX42.out HX41.out.size _ | exact bst HX42.out HX43.out.size _ | exact bst HX42.out HX40.out.size _ | exact bst HX42.out HX42.out.size _ | exact bst HX42.out (Nat.le_refl _) _) hb43); (first | (have bf := hid (Bxf.kept bf.out hb43); skip) | (have bf := hid (Bxf.kept (Bxf.new (w := w41) (b := w41.heap.size) rfl) hb43)) | (have bf := hid (Bxf.kept (Bxf.new (w := w41.drew) (b := w41.heap.size) rfl) hb43)) | skip); clear ho43 hb43) | (go_at_call 37; refine (HF1.out _ _ _ _ _ _ _ _ (HP43.out.below (by first | exact Below.refl _ _ | exact bal (Below.refl _ _) _)) (rdn HT43.out (by first | exact Below.refl _ _ | exact bal (Below.refl _ _) _))).mono ?_; rintro e w42 ⟨A42, c42, rfl, hr42, hb42⟩; have HR42 := hid (show Nds w42 w42.heap.size A42 L1 from Reads.of_own (by rw [← HN1.out]; exact hr42)); (first | (have bo := hid (Bxf.own bf.out hb42 hr42 HN1.out); skip) | (have bo := hid (Bxf.own (Bxf.new (w := w43) (b := w43.heap.size) rfl) hb42 hr42 HN1.out)) | skip); have HX42 := hid (show Below w3.heap.size w3 w42 from bnext (by first | exact HX43.out | exact bal HX43.out _ | exact HX42.out | exact bal HX42.out _ | exact HX41.out | exact bal HX41.out _ | exact HX40.out | exact bal HX40.out _ | exact (Below.refl _ _).drew | exact bal (Below.refl _ _).drew _ | exact (bal (Below.refl _ _) _).drew | exact Below.refl _ _ | exact bal (Below.refl _ _) _ | exact bst HX42.out HX41.out.size _ | exact bst HX42.out HX43.out.size _ | exact bst HX42.out HX40.out.size _ | exact bst HX42.out HX42.out.size _ | exact bst HX42.out (Nat.le_refl _) _) hb42); (first | (have bf := hid (Bxf.kept bf.out hb42); skip) | (have bf := hid (Bxf.kept (Bxf.new (w := w43) (b := w43.heap.size) rfl) hb42)) | (have bf := hid (Bxf.kept (Bxf.new (w := w43.drew) (b := w43.heap.size) rfl) hb42)) | skip); (first | (have bfc := bf.out.cell; have bff := bf.out.free) | skip); clear hr42 hb42))
        all_goals
          go_wp2_with fail
          go_meet
          first
            | exact ⟨_, _, _, rfl, rfl, hid bo.out.1, hid bo.out.2, hid (by first | exact HX43.out | exact bal HX43.out _ | exact HX42.out | exact bal HX42.out _ | exact HX41.out | exact bal HX41.out _ | exact HX40.out | exact bal HX40.out _ | exact (Below.refl _ _).drew | exact bal (Below.refl _ _).drew _ | exact (bal (Below.refl _ _) _).drew | exact Below.refl _ _ | exact bal (Below.refl _ _) _ | exact bst HX42.out HX41.out.size _ | exact bst HX42.out HX43.out.size _ | exact bst HX42.out HX40.out.size _ | exact bst HX42.out HX42.out.size _ | exact bst HX42.out (Nat.le_refl _) _)⟩
            | exact ⟨_, _, _, rfl, rfl, hid (Bx.new rfl), hid (rdn HR42.out (bal (Below.refl _ _) _)), hid (bal HX42.out _)⟩
      obtain ⟨b4, A4, c4, rfl, rfl, BX4, HR4, HX4⟩ := hcut
      obtain ⟨w4, rfl⟩ : ∃ W, W = wc := ⟨_, rfl⟩
      have HB4 := hid (bnext HB3.out HX4.out)
      clear HX4
      by_cases hE : E1 = 0
      case neg =>
        have f0 : (E1 != 0) = true := by simp [hE]
        clear hE
        go_wp2_with (first | (go_at_call 16; refine (HWK.out _).mono ?_; rintro e w5 ⟨rfl, hb5⟩; have HB5 := hid (bnext HB4.out hb5); clear hb5))
        go_ret
        exact ⟨rfl, HW.out _ HB5.out⟩
      have f0 : (E1 != 0) = false := by simp [hE]
      obtain ⟨f, g, hfr, htr, hfg, hgn, hLL, hchk, hmk⟩ := HE0.out hE
      subst hfr htr hE
      clear HE0 HF1
      have HLL := hid hLL; have HCH := hid hchk; have HMK := hid hmk
      obtain ⟨ng, hng⟩ : ∃ ng, ng = (kidsOf l (-1)).length := ⟨_, rfl⟩
      have hnz : (nz (kidsOf l (-1))).length = ng := by rw [nz_len, hng]
      have hgl := kidsOf_len (l := l) (node := -1) (by omega)
      rw [← hng] at hgn HFS hgl
      have HNG := hid hng; have HNZ := hid hnz
      rw [hnz] at HRG
      have hng210 : ng ≤ 210 := by have := HS2.out; omega
      clear hLL hchk hmk hng hnz hgl
      have q0 := HC0.out w4 HB4.out; have q1 := HC1.out w4 HB4.out; have q3 := HC3.out w4 HB4.out
      go_upto_region 8 with (first | (go_at_call 26; refine (HRG.out _ HB4.out).mono ?_; rintro e w7 ⟨A7, c7, rfl, hr7, hb7⟩; have HR7 := hid hr7; have HB7 := hid (bnext HB4.out hb7); replace HR4 := hid (rdn HR4.out hb7); replace BX4 := hid (bxn BX4.out hb7); clear hr7 hb7 q0 q1 q3))
      obtain ⟨B, hB⟩ : ∃ B, B = w7.heap.size := ⟨_, rfl⟩
      have hOS := OutM.start w7
      rw [← hB] at hOS
      have hZ2 := HB7.out.size
      rw [← hB] at hZ2
      have HOS := hid hOS; have HBb := hid hB
      have HGS := hid fun (W : World) (h : Below B w7 W) (i : Nat) (hi : i < ng) => (show ∃ bb oo, A7 = some ⟨bb, oo, none⟩ ∧ W.cell? ⟨bb, oo + i, none⟩ = some (.int .i64 (posG l i : Int)) from by
        obtain ⟨bb, oo, hA, hbb, hc⟩ := HR7.out.at (by rw [HNZ.out]; omega)
        have hil : i < (kidsOf l (-1)).length := by rw [← HNG.out]; exact hi
        have h1 := hc i (by rw [HNZ.out]; exact hi)
        rw [nth_nz hil, List.getD_eq_getElem?_getD, List.getElem?_eq_getElem hil, Option.getD_some, ← posG_at hil] at h1
        exact ⟨bb, oo, hA, (h.cell (p := ⟨bb, oo + i, none⟩) (by rw [HBb.out]; exact hbb)).trans h1⟩)
      clear hOS hB
      go_wp2_with fail
      go_loopw [10, 11] (fun vv iv wr => ∃ i : Nat, i ≤ ng + 1 ∧ iv = .int .i64 i ∧ Hid (OutM B w7 (mkR l t f g i) vv wr)) (fun _ iv _ => ng + 1 - (intOf iv).toNat)
      case atStart => exact ⟨0, by omega, rfl, HOS⟩
      case round =>
        obtain ⟨i, hi, rfl, hO⟩ := hrel
        have hbw : Below w1.heap.size w1 wr := HB7.out.trans (hO.out.bel.mono hZ2)
        have HBr := hid hbw
        have HB7r := hid (show Below w7.heap.size w7 wr from by have := hO.out.bel; rwa [HBb.out] at this)
        by_cases hin : i ≤ ng
        · have g0 : decide ((i : Int) ≤ (ng : Int)) = true := decide_eq_true (by omega)
          have g0' : (i : Int) ≤ (ng : Int) := by omega
          have q6 := HC6.out wr HBr.out
          obtain ⟨D, hD⟩ : ∃ D, D = (if (i : Int) = (f : Int) then mkR l t f g i ++ marks t else mkR l t f g i) := ⟨_, rfl⟩
          have hml := HML.out i
          have hmt := marks_len t
          have hs4 := HS4.out
          have hst : mkR l t f g (i + 1) = D ++ (if i < ng ∧ ((i : Int) < (f : Int) ∨ (g : Int) ≤ (i : Int)) then marks (partOf l (posG l i)) else []) := by rw [hD, HNG.out]; rfl
          have hDl : D.length ≤ 420 * i + 210 := by
            rw [hD]
            split
            · rw [List.length_append]; omega
            · omega
          have HD := hid hD; have HST := hid hst; have HOR := hid hO.out
          have hDl2 : D.length ≤ 1000000 := by omega
          clear hD hst hDl hO hbw hml hmt hs4
          go_upto_if 68 with (fail)
          go_cut [10, 11] (fun s10 s11 wx => s11 = .int .i64 i ∧ Hid (OutM B w7 D s10 wx))
          case first =>
            by_cases hif : i = f
            · have e6 : ((i : Int) == (f : Int)) = true := by simp [hif]
              have hDD : D = mkR l t f g i ++ marks t := by rw [HD.out, if_pos (by omega)]
              obtain ⟨nj, hnj⟩ : ∃ nj, nj = (mkR l t f g i).length := ⟨_, rfl⟩
              obtain ⟨nk, hnk⟩ : ∃ nk, nk = (marks t).length := ⟨_, rfl⟩
              have hsum : nj + nk ≤ 1000000 := by have := congrArg List.length hDD; rw [List.length_append] at this; omega
              rw [← hnk] at HLT
              have HNJ := hid hnj; have HNK := hid hnk; have HDD := hid hDD
              clear hDD hnj hnk hif q6
              go_upto_region 13 with (fail)
              have q0 := HC0.out wr HBr.out; have q1 := HC1.out wr HBr.out; have q3 := HC3.out wr HBr.out; have e0 := HD0.out wr HBr.out; have e1 := HD1.out wr HBr.out; have e3 := HD3.out wr HBr.out
              have hZr : B ≤ wr.heap.size := by rw [HBb.out]; exact HOR.out.bel.size
              go_region_held3 (fun w' => w'.cell? ⟨B0, 0, none⟩ = some (.int .i64 P) ∧ w'.cell? ⟨B0, 1, none⟩ = some (.slice A N c) ∧ w'.cell? ⟨B0, 2, none⟩ = some (.slice A2 n c2) ∧ w'.cell? ⟨B2, 0, none⟩ = some (.int .i64 P) ∧ w'.cell? ⟨B2, 1, none⟩ = some (.slice A N c) ∧ w'.cell? ⟨B2, 2, none⟩ = some (.slice A5 nt c5)) (first | exact ⟨q0, q1, q3, e0, e1, e3⟩ | exact ⟨HC0.out _ HB130.out, HC1.out _ HB130.out, HC3.out _ HB130.out, HD0.out _ HB130.out, HD1.out _ HB130.out, HD3.out _ HB130.out⟩ | exact ⟨HC0.out _ HB131.out, HC1.out _ HB131.out, HC3.out _ HB131.out, HD0.out _ HB131.out, HD1.out _ HB131.out, HD3.out _ HB131.out⟩ | exact ⟨HC0.out _ HB132.out, HC1.out _ HB132.out, HC3.out _ HB132.out, HD0.out _ HB132.out, HD1.out _ HB132.out, HD3.out _ HB132.out⟩ | fail) (first | (go_at_call 17; refine (HLI.out _ (by first | exact HBr.out.drew | exact HBr.out)).mono ?_; rintro e w130 ⟨A130, c130, ss130, rfl, hl130, hb130⟩; have HL130 := hid (hl130.base (Nat.zero_le _)); have HX130 := hid (show Below wr.heap.size wr w130 from by first | exact (Below.refl _ _).drew.trans hb130 | exact hb130); have HB130 := hid (bnext HBr.out HX130.out); clear hl130 hb130) | (go_at_call 18; refine (HTQ.out _ HB130.out).mono ?_; rintro e w131 ⟨A131, c131, rfl, ho131, hb131⟩; have HT131 := hid (show Nds w131 w131.heap.size A131 t from Reads.of_own (by rw [← HNT.out]; exact ho131)); have HL131 := hid (HL130.out.below hb131); have HX131 := hid (bnext HX130.out hb131); have HB131 := hid (bnext HB130.out hb131); clear ho131 hb131) | (go_at_call 28; refine (HLT.out _ _ _ _ _ _ HL131.out HT131.out).mono ?_; rintro e w132 ⟨A132, c132, rfl, hr132, hb132⟩; have HR132 := hid hr132; have HX132 := hid (bnext HX131.out hb132); have HB132 := hid (bnext HB131.out hb132); clear hr132 hb132))
              clear q0 q1 q3 e0 e1 e3
              have hO2 := (HOR.out.below HX132.out hZr)
              have hOw := hO2.own
              rw [← HNJ.out] at hOw
              obtain ⟨A9, c9, rfl⟩ := own_slice hOw
              have HOw := hid hOw; have HOO := hid hO2
              have HRD := hid (show Reads w132 w132.heap.size 4 A132 nk (flatM (marks t)) from by have := HR132.out; unfold Mks at this; rwa [← HNK.out] at this)
              have HZB := hid (show B ≤ w132.heap.size from Nat.le_trans hZr HX132.out.size)
              clear hO2 hOw
              go_wp2_with (first | (at_builtin; refine app_rdS rfl (.tmp 79) (.tmp 80) Try.underlying44 Try.infoMark rfl (by decide) (by decide) rfl B _ nj (flatM (mkR l t f g i)) rfl HOw.out A132 nk c132 w132.heap.size (flatM (marks t)) rfl HRD.out (fun u hu => flatM_one hu) (by omega) HZB.out ?_; intro v8 w8 ho8 hg8; have HO9 := hid (OutM.stepL HOO.out HZB.out HNJ.out HNK.out ho8 hg8); clear ho8 hg8))
              go_meet
              exact ⟨rfl, by rw [HDD.out]; exact HO9⟩
            · have e6 : ((i : Int) == (f : Int)) = false := by simp; omega
              have hDD : D = mkR l t f g i := by rw [HD.out, if_neg (by omega)]
              have HDD := hid hDD
              clear hDD hif
              go_wp2_with fail
              go_meet
              exact ⟨rfl, by rw [HDD.out]; exact HOR⟩
          obtain ⟨rfl, hOX⟩ := hcut
          obtain ⟨wm, rfl⟩ : ∃ W, W = wc := ⟨_, rfl⟩
          have hbm : Below w1.heap.size w1 wm := HB7.out.trans (hOX.out.bel.mono hZ2)
          have HBm := hid hbm
          have hZm : B ≤ wm.heap.size := by rw [HBb.out]; exact hOX.out.bel.size
          have HB7m := hid (show Below w7.heap.size w7 wm from by have := hOX.out.bel; rwa [HBb.out] at this)
          obtain ⟨nm, hnm⟩ : ∃ nm, nm = D.length := ⟨_, rfl⟩
          have hOw := hOX.out.own
          rw [← hnm] at hOw hDl2
          obtain ⟨A6, c6, rfl⟩ := own_slice hOw
          have HOM := hid hOw; have HOT := hid hOX.out; have HNM := hid hnm
          have q6 := HC6.out wm HBm.out; have q7 := HC7.out wm HBm.out
          clear hOX hOw hbm hnm HOR
          by_cases hcond : i < ng ∧ ((i : Int) < (f : Int) ∨ (g : Int) ≤ (i : Int))
          · have hst : mkR l t f g (i + 1) = D ++ marks (partOf l (posG l i)) := by rw [HST.out, if_pos hcond]
            obtain ⟨bb, oo, rfl, hgc⟩ := HGS.out wm (by rw [HBb.out]; exact HB7m.out) i hcond.1
            have hbl := World.block_lt_of_cell? _ _ hgc
            have HFSi := hid (HFS.out i (by omega))
            have hil : i < (kidsOf l (-1)).length := by rw [← HNG.out]; exact hcond.1
            have hpl : (partOf l (posG l i)).length ≤ 210 := by rw [partOf_len (posG_lt hil)]; have := endOf_le (posG_lt hil); have := HS2.out; omega
            have hpk : chkE P ss (partOf l (posG l i)) = 0 := by rw [part_str (good_of (chkE_zero HCK.out).2.2.1).wf hil]; exact str_ok HCK.out (by omega) (by omega)
            have HLi := hid (HFL.out (partOf l (posG l i)) hpl hpk)
            have hmk := marks_len (partOf l (posG l i))
            obtain ⟨nI, hnI⟩ : ∃ nI, nI = (partOf l (posG l i)).length := ⟨_, rfl⟩
            obtain ⟨nP, hnP⟩ : ∃ nP, nP = (marks (partOf l (posG l i))).length := ⟨_, rfl⟩
            rw [← hnI] at HFSi hpl hmk
            rw [← hnI, ← hnP] at HLi
            rw [← hnP] at hmk
            have HNI := hid hnI; have HNP := hid hnP; have HSTT := hid hst
            have HG2 := hid fun (W : World) (h : Below wm.heap.size wm W) => (h.cell (p := ⟨bb, oo + i, none⟩) hbl).trans hgc
            have q8 := hgc
            have g2 : (i : Int) < (ng : Int) := by omega
            have g3 : i < ng := hcond.1
            have hcs : (decide (i < f) = true ∧ decide ((i : Int) < (f : Int)) = true) ∨ ((decide (i < f) = false ∧ decide ((i : Int) < (f : Int)) = false) ∧ (decide (g ≤ i) = true ∧ decide ((g : Int) ≤ (i : Int)) = true)) := by
              simp only [decide_eq_true_eq, decide_eq_false_iff_not]; omega
            clear hst hnI hnP hpk hbl hgc hcond hil
            go_upto_region 17 with (fail)
            go_cut [97] (fun s wx => s = .bool true ∧ wm = wx)
            case first =>
              rcases hcs with ⟨x1, x2⟩ | ⟨⟨x1, x2⟩, x3, x4⟩
              all_goals
                go_wp2_with fail
                go_meet
                exact ⟨rfl, rfl⟩
            obtain ⟨rfl, rfl⟩ := hcut
            clear hcs
            go_upto_region 18 with (fail)
            go_cut [14, 15] (fun s3 s4 wx => ∃ (b : Nat) (A' : Option Addr) (c' : Nat), s3 = .pointer (some ⟨b, 0, none⟩) ∧ s4 = .int .i64 0 ∧ Hid (Bx wx b (.slice A' nI c')) ∧ Hid (Nds wx wx.heap.size A' (partOf l (posG l i))) ∧ Hid (Below wm.heap.size wm wx))
            case first =>
              have q0 := HC0.out wm HBm.out; have q1 := HC1.out wm HBm.out; have q3 := HC3.out wm HBm.out
              have hsb : w1.heap.size ≤ wm.heap.size := HBm.out.size
              go_region_held3 (fun w' => w'.cell? ⟨B0, 0, none⟩ = some (.int .i64 P) ∧ w'.cell? ⟨B0, 1, none⟩ = some (.slice A N c) ∧ w'.cell? ⟨B0, 2, none⟩ = some (.slice A2 n c2) ∧ w'.cell? ⟨bb, oo + i, none⟩ = some (.int .i64 (posG l i : Int))) (first | exact ⟨q0, q1, q3, q8⟩ | exact ⟨HC0.out _ (bnext HBm.out (by first | exact HX182.out | exact bal HX182.out _ | exact HX181.out | exact bal HX181.out _ | exact HX180.out | exact bal HX180.out _ | exact (Below.refl _ _).drew | exact bal (Below.refl _ _).drew _ | exact (bal (Below.refl _ _) _).drew | exact Below.refl _ _ | exact bal (Below.refl _ _) _ | exact bst HX182.out HX181.out.size _ | exact bst HX182.out HX180.out.size _ | exact bst HX182.out HX182.out.size _ | exact bst HX182.out (Nat.le_refl _) _)), HC1.out _ (bnext HBm.out (by first | exact HX182.out | exact bal HX182.out _ | exact HX181.out | exact bal HX181.out _ | exact HX180.out | exact bal HX180.out _ | exact (Below.refl _ _).drew | exact bal (Below.refl _ _).drew _ | exact (bal (Below.refl _ _) _).drew | exact Below.refl _ _ | exact bal (Below.refl _ _) _ | exact bst HX182.out HX181.out.size _ | exact bst HX182.out HX180.out.size _ | exact bst HX182.out HX182.out.size _ | exact bst HX182.out (Nat.le_refl _) _)), HC3.out _ (bnext HBm.out (by first | exact HX182.out | exact bal HX182.out _ | exact HX181.out | exact bal HX181.out _ | exact HX180.out | exact bal HX180.out _ | exact (Below.refl _ _).drew | exact bal (Below.refl _ _).drew _ | exact (bal (Below.refl _ _) _).drew | exact Below.refl _ _ | exact bal (Below.refl _ _) _ | exact bst HX182.out HX181.out.size _ | exact bst HX182.out HX180.out.size _ | exact bst HX182.out HX182.out.size _ | exact bst HX182.out (Nat.le_refl _) _)), HG2.out _ (by first | exact HX182.out | exact bal HX182.out _ | exact HX181.out | exact bal HX181.out _ | exact HX180.out | exact bal HX180.out _ | exact (Below.refl _ _).drew | exact bal (Below.refl _ _).drew _ | exact (bal (Below.refl _ _) _).drew | exact Below.refl _ _ | exact bal (Below.refl _ _) _ | exact bst HX182.out HX181.out.size _ | exact bst HX182.out HX180.out.size _ | exact bst HX182.out HX182.out.size _ | exact bst HX182.out (Nat.le_refl _) _)⟩ | fail) (first | (go_at_call 17; refine (HLI.out _ (bnext HBm.out (by first | exact HX182.out | exact bal HX182.out _ | exact HX181.out | exact bal HX181.out _ | exact HX180.out | exact bal HX180.out _ | exact (Below.refl _ _).drew | exact bal (Below.refl _ _).drew _ | exact (bal (Below.refl _ _) _).drew | exact Below.refl _ _ | exact bal (Below.refl _ _) _ | exact bst HX182.out HX181.out.size _ | exact bst HX182.out HX180.out.size _ | exact bst HX182.out HX182.out.size _ | exact bst HX182.out (Nat.le_refl _) _))).mono ?_; rintro e w180 ⟨A180, c180, ss180, rfl, hl180, hb180⟩; have HL180 := hid hl180; have HX180 := hid (show Below wm.heap.size wm w180 from bnext (by first | exact HX182.out | exact bal HX182.out _ | exact HX181.out | exact bal HX181.out _ | exact HX180.out | exact bal HX180.out _ | exact (Below.refl _ _).drew | exact bal (Below.refl _ _).drew _ | exact (bal (Below.refl _ _) _).drew | exact Below.refl _ _ | exact bal (Below.refl _ _) _ | exact bst HX182.out HX181.out.size _ | exact bst HX182.out HX180.out.size _ | exact bst HX182.out HX182.out.size _ | exact bst HX182.out (Nat.le_refl _) _) hb180); (first | (have bf := hid (Bxf.kept bf.out hb180); skip) | (have bf := hid (Bxf.kept (Bxf.new (w := wm) (b := wm.heap.size) rfl) hb180)) | (have bf := hid (Bxf.kept (Bxf.new (w := wm.drew) (b := wm.heap.size) rfl) hb180)) | skip); clear hl180 hb180) | (go_at_call 18; refine (HTX.out _ (bnext HBm.out (by first | exact HX182.out | exact bal HX182.out _ | exact HX181.out | exact bal HX181.out _ | exact HX180.out | exact bal HX180.out _ | exact (Below.refl _ _).drew | exact bal (Below.refl _ _).drew _ | exact (bal (Below.refl _ _) _).drew | exact Below.refl _ _ | exact bal (Below.refl _ _) _ | exact bst HX182.out HX181.out.size _ | exact bst HX182.out HX180.out.size _ | exact bst HX182.out HX182.out.size _ | exact bst HX182.out (Nat.le_refl _) _))).mono ?_; rintro e w181 ⟨A181, c181, rfl, ho181, hb181⟩; have HP181 := hid (Copies.mk' (c4 := c181) HL180.out (bnext (by first | exact Below.refl _ _ | exact bal (Below.refl _ _) _) hb181) (by rw [← HNl.out]; exact ho181)); have HX181 := hid (show Below wm.heap.size wm w181 from bnext (by first | exact HX182.out | exact bal HX182.out _ | exact HX181.out | exact bal HX181.out _ | exact HX180.out | exact bal HX180.out _ | exact (Below.refl _ _).drew | exact bal (Below.refl _ _).drew _ | exact (bal (Below.refl _ _) _).drew | exact Below.refl _ _ | exact bal (Below.refl _ _) _ | exact bst HX182.out HX181.out.size _ | exact bst HX182.out HX180.out.size _ | exact bst HX182.out HX182.out.size _ | exact bst HX182.out (Nat.le_refl _) _) hb181); (first | (have bf := hid (Bxf.kept bf.out hb181); skip) | (have bf := hid (Bxf.kept (Bxf.new (w := w180) (b := w180.heap.size) rfl) hb181)) | (have bf := hid (Bxf.kept (Bxf.new (w := w180.drew) (b := w180.heap.size) rfl) hb181)) | skip); clear ho181 hb181) | (go_at_call 43; refine (HFSi.out _ _ _ _ _ _ (HP181.out.below (by first | exact Below.refl _ _ | exact bal (Below.refl _ _) _)) (bnext HBm.out (by first | exact HX182.out | exact bal HX182.out _ | exact HX181.out | exact bal HX181.out _ | exact HX180.out | exact bal HX180.out _ | exact (Below.refl _ _).drew | exact bal (Below.refl _ _).drew _ | exact (bal (Below.refl _ _) _).drew | exact Below.refl _ _ | exact bal (Below.refl _ _) _ | exact bst HX182.out HX181.out.size _ | exact bst HX182.out HX180.out.size _ | exact bst HX182.out HX182.out.size _ | exact bst HX182.out (Nat.le_refl _) _))).mono ?_; rintro e w182 ⟨A182, c182, rfl, hr182, hb182⟩; have HR182 := hid (show Nds w182 w182.heap.size A182 (partOf l (posG l i)) from Reads.of_own (by rw [← HNI.out]; exact hr182)); (first | (have bo := hid (Bxf.own bf.out hb182 hr182 HNI.out); skip) | (have bo := hid (Bxf.own (Bxf.new (w := w181) (b := w181.heap.size) rfl) hb182 hr182 HNI.out)) | skip); have HX182 := hid (show Below wm.heap.size wm w182 from bnext (by first | exact HX182.out | exact bal HX182.out _ | exact HX181.out | exact bal HX181.out _ | exact HX180.out | exact bal HX180.out _ | exact (Below.refl _ _).drew | exact bal (Below.refl _ _).drew _ | exact (bal (Below.refl _ _) _).drew | exact Below.refl _ _ | exact bal (Below.refl _ _) _ | exact bst HX182.out HX181.out.size _ | exact bst HX182.out HX180.out.size _ | exact bst HX182.out HX182.out.size _ | exact bst HX182.out (Nat.le_refl _) _) hb182); (first | (have bf := hid (Bxf.kept bf.out hb182); skip) | (have bf := hid (Bxf.kept (Bxf.new (w := w181) (b := w181.heap.size) rfl) hb182)) | (have bf := hid (Bxf.kept (Bxf.new (w := w181.drew) (b := w181.heap.size) rfl) hb182)) | skip); (first | (have bfc := bf.out.cell; have bff := bf.out.free) | skip); clear hr182 hb182))
              all_goals
                go_wp2_with fail
                go_meet
                first
                  | exact ⟨_, _, _, rfl, rfl, hid bo.out.1, hid bo.out.2, hid (by first | exact HX182.out | exact bal HX182.out _ | exact HX181.out | exact bal HX181.out _ | exact HX180.out | exact bal HX180.out _ | exact (Below.refl _ _).drew | exact bal (Below.refl _ _).drew _ | exact (bal (Below.refl _ _) _).drew | exact Below.refl _ _ | exact bal (Below.refl _ _) _ | exact bst HX182.out HX181.out.size _ | exact bst HX182.out HX180.out.size _ | exact bst HX182.out HX182.out.size _ | exact bst HX182.out (Nat.le_refl _) _)⟩
                  | exact ⟨_, _, _, rfl, rfl, hid (Bx.new rfl), hid (rdn HR182.out (bal (Below.refl _ _) _)), hid (bal HX182.out _)⟩
            obtain ⟨b18, A18, c18, rfl, rfl, BX18, HR18, HX18⟩ := hcut
            obtain ⟨w18, rfl⟩ : ∃ W, W = wc := ⟨_, rfl⟩
            have HB18 := hid (bnext HBm.out HX18.out)
            go_upto_region 19 with (fail)
            have q0 := HC0.out w18 HB18.out; have q1 := HC1.out w18 HB18.out; have q3 := HC3.out w18 HB18.out
            have y1 := BX18.out.cell
            have HBc := hid fun (W : World) (h : Below w18.heap.size w18 W) => (bxn BX18.out h).cell
            go_region_held3 (fun w' => w'.cell? ⟨B0, 0, none⟩ = some (.int .i64 P) ∧ w'.cell? ⟨B0, 1, none⟩ = some (.slice A N c) ∧ w'.cell? ⟨B0, 2, none⟩ = some (.slice A2 n c2) ∧ w'.cell? ⟨b18, 0, none⟩ = some (.slice A18 nI c18)) (first | exact ⟨q0, q1, q3, y1⟩ | exact ⟨HC0.out _ (bnext HB18.out (by first | exact HX191.out | exact HX190.out | exact (Below.refl _ _).drew | exact Below.refl _ _)), HC1.out _ (bnext HB18.out (by first | exact HX191.out | exact HX190.out | exact (Below.refl _ _).drew | exact Below.refl _ _)), HC3.out _ (bnext HB18.out (by first | exact HX191.out | exact HX190.out | exact (Below.refl _ _).drew | exact Below.refl _ _)), HBc.out _ (by first | exact HX191.out | exact HX190.out | exact (Below.refl _ _).drew | exact Below.refl _ _)⟩ | fail) (first | (go_at_call 17; refine (HLI.out _ (bnext HB18.out (by first | exact HX191.out | exact HX190.out | exact (Below.refl _ _).drew | exact Below.refl _ _))).mono ?_; rintro e w190 ⟨A190, c190, ss190, rfl, hl190, hb190⟩; have HL190 := hid (hl190.base (Nat.zero_le _)); have HX190 := hid (show Below w18.heap.size w18 w190 from bnext (by first | exact (Below.refl _ _).drew | exact Below.refl _ _) hb190); have HT190 := hid (rdn HR18.out HX190.out); clear hl190 hb190) | (go_at_call 28; refine (HLi.out _ _ _ _ _ _ HL190.out HT190.out).mono ?_; rintro e w191 ⟨A191, c191, rfl, hr191, hb191⟩; have HR191 := hid hr191; have HX191 := hid (bnext HX190.out hb191); have HB191 := hid (bnext HB18.out HX191.out); clear hr191 hb191))
            clear q0 q1 q3 y1
            have hZP : B ≤ w191.heap.size := Nat.le_trans hZm (Nat.le_trans HX18.out.size HX191.out.size)
            have hO2 := HOT.out.below (HX18.out.trans (HX191.out.mono HX18.out.size)) hZm
            have hOw := hO2.own
            rw [← HNM.out] at hOw
            have HOw := hid hOw; have HOO := hid hO2
            have HRD := hid (show Reads w191 w191.heap.size 4 A191 nP (flatM (marks (partOf l (posG l i)))) from by have := HR191.out; unfold Mks at this; rwa [← HNP.out] at this)
            have HZB := hid hZP
            clear hO2 hOw hZP
            go_wp2_with (first | (at_builtin; refine app_rdS rfl (.tmp 123) (.tmp 124) Try.underlying44 Try.infoMark rfl (by decide) (by decide) rfl B _ nm (flatM D) rfl HOw.out A191 nP c191 w191.heap.size (flatM (marks (partOf l (posG l i)))) rfl HRD.out (fun u hu => flatM_one hu) (by omega) HZB.out ?_; intro v8 w8 ho8 hg8; have HO9 := hid (OutM.stepL HOO.out HZB.out HNM.out HNP.out ho8 hg8); clear ho8 hg8))
            go_roundw
            case rel => exact ⟨i + 1, by omega, by go_num, by rw [HSTT.out]; exact HO9⟩
            case measure => simp [intOf]; omega
          · have hst : mkR l t f g (i + 1) = D := by rw [HST.out, if_neg hcond, List.append_nil]
            have HSTT := hid hst
            have hcs : (decide (i < ng) = false ∧ decide ((i : Int) < (ng : Int)) = false) ∨ ((decide (i < ng) = true ∧ decide ((i : Int) < (ng : Int)) = true) ∧ (decide (i < f) = false ∧ decide ((i : Int) < (f : Int)) = false) ∧ (decide (g ≤ i) = false ∧ decide ((g : Int) ≤ (i : Int)) = false)) := by
              simp only [decide_eq_true_eq, decide_eq_false_iff_not]; omega
            clear hst hcond
            rcases hcs with ⟨x1, x2⟩ | ⟨⟨x1, x2⟩, ⟨x3, x4⟩, x5, x6⟩
            all_goals
              go_wp2_with fail
              go_roundw
              case rel => exact ⟨i + 1, by omega, by go_num, by rw [HSTT.out]; exact HOT⟩
              case measure => simp [intOf]; omega
        · obtain rfl : i = ng + 1 := by omega
          have g0 : decide (((ng + 1 : Nat) : Int) ≤ (ng : Int)) = false := decide_eq_false (by omega)
          have hml : L1.length ≤ 210 := by have := HN1.out; have h2 := (chkE_zero HCH.out).2.1; rw [HLL.out]; omega
          have HLz := hid (HFL.out L1 hml (by rw [HLL.out]; exact HCH.out))
          have he : mkR l t f g (ng + 1) = marks L1 := by rw [HLL.out, HMK.out, HNG.out]
          have hmk := marks_len L1
          obtain ⟨nz, hnz⟩ : ∃ nz, nz = (marks L1).length := ⟨_, rfl⟩
          have hO2 := hO.out
          rw [he] at hO2
          have hOw := hO2.own
          rw [← hnz] at hOw hmk HLz
          rw [← HN1.out] at HLz
          obtain ⟨A6, c6, rfl⟩ := own_slice hOw
          have HOw := hid hOw; have HNZ2 := hid hnz
          have hnz2 : nz ≤ 1000000 := by omega
          have HRW := hid (show Mks wr wr.heap.size A6 (marks L1) from by unfold Mks; rw [← hnz]; exact Reads.of_own hOw)
          have BX4r := hid (bxn BX4.out HB7r.out); have HR4r := hid (rdn HR4.out HB7r.out)
          have y1 := BX4r.out.cell
          have HBc := hid fun (W : World) (h : Below wr.heap.size wr W) => (bxn BX4r.out h).cell
          have HSM := hid fun (W : World) (A' : Option Addr) (c' : Nat) (h1 : Mks W W.heap.size A' (marks L1)) (h2 : Mks W W.heap.size A6 (marks L1)) => (show Calls Try.prog 34 #[.slice A' nz c', .slice A6 nz c6] W fun e w' => e = .returned (.bool true) ∧ Below W.heap.size W w' from by have := (sameMarks_any (marks L1) (marks L1) A' A6 c' c6 (by rw [← HNZ2.out]; exact hnz2) (by rw [← HNZ2.out]; exact hnz2) W h1 h2).mono fun e w' hb => hb.get (r := true) (iff_of_true rfl rfl); rw [← HNZ2.out] at this; exact this)
          have HBr2 := hid hbw
          clear hO hO2 hOw hnz hml he hmk hbw
          have q0 := HC0.out wr HBr2.out; have q1 := HC1.out wr HBr2.out; have q3 := HC3.out wr HBr2.out
          go_upto_region 23 with (fail)
          go_region_held3 (fun w' => w'.cell? ⟨B0, 0, none⟩ = some (.int .i64 P) ∧ w'.cell? ⟨B0, 1, none⟩ = some (.slice A N c) ∧ w'.cell? ⟨B0, 2, none⟩ = some (.slice A2 n c2) ∧ w'.cell? ⟨b4, 0, none⟩ = some (.slice A4 n1 c4)) (first | exact ⟨q0, q1, q3, y1⟩ | exact ⟨HC0.out _ (bnext HBr2.out (by first | exact HX231.out | exact HX230.out | exact (Below.refl _ _).drew | exact Below.refl _ _)), HC1.out _ (bnext HBr2.out (by first | exact HX231.out | exact HX230.out | exact (Below.refl _ _).drew | exact Below.refl _ _)), HC3.out _ (bnext HBr2.out (by first | exact HX231.out | exact HX230.out | exact (Below.refl _ _).drew | exact Below.refl _ _)), HBc.out _ (by first | exact HX231.out | exact HX230.out | exact (Below.refl _ _).drew | exact Below.refl _ _)⟩ | fail) (first | (go_at_call 17; refine (HLI.out _ (bnext HBr2.out (by first | exact HX231.out | exact HX230.out | exact (Below.refl _ _).drew | exact Below.refl _ _))).mono ?_; rintro e w230 ⟨A230, c230, ss230, rfl, hl230, hb230⟩; have HL230 := hid (hl230.base (Nat.zero_le _)); have HX230 := hid (show Below wr.heap.size wr w230 from bnext (by first | exact (Below.refl _ _).drew | exact Below.refl _ _) hb230); have HT230 := hid (rdn HR4r.out HX230.out); clear hl230 hb230) | (go_at_call 28; refine (HLz.out _ _ _ _ _ _ HL230.out HT230.out).mono ?_; rintro e w231 ⟨A231, c231, rfl, hr231, hb231⟩; have HR231 := hid hr231; have HX231 := hid (bnext HX230.out hb231); have HB231 := hid (bnext HBr2.out HX231.out); clear hr231 hb231))
          clear q0 q1 q3 y1
          have HRW2 := hid (rdn HRW.out HX231.out)
          go_wp2_with (first | (go_at_call 34; refine (HSM.out _ _ _ HR231.out HRW2.out).mono ?_; rintro e w24 ⟨rfl, hb24⟩; have HB24 := hid (bnext HB231.out hb24); clear hb24) | (go_at_call 16; refine (HWK.out _).mono ?_; rintro e w25 ⟨rfl, hb25⟩; have HB25 := hid (bnext HB24.out hb25); clear hb25))
          go_ret
          exact ⟨rfl, HW.out _ HB25.out⟩
end Go.Proofs.Ytddbnggficlcfaa

namespace Go.Proofs.Ytddbnggficlcfaa
open Go.ChangeShapes Go.WideShapes Go.ChangeAt Go.RowKit Go.Joins Go.Deep
theorem max63 {n : Nat} (h : n ≤ maxLen) : n ≤ 9223372036854775807 := h
theorem wf63 {n : Int} (h : (Lit.int .i64 n).wf = true) : -9223372036854775808 ≤ n ∧ n ≤ 9223372036854775807 := by
  simp only [Lit.wf, Bool.and_eq_true, decide_eq_true_eq] at h
  exact h
set_option maxRecDepth 100000 in
theorem inorder_lifted (os : Os) (started : os.Started) (H : Type) (enc : TypeId × Value → H) :
    ReturnsInHanded {} Try.checked os 11 .any (Rows.groupsInOrderSpec.pre6 enc Try.prog Try.f11 Rows.groupsInOrderRow.domain false) (Rows.groupsInOrderSpec.post enc Try.prog Try.f11 false true false false) := by
  refine returnsInHanded_of_change (C := Try.checked) row_own started (by kernel_rfl) Try.func11
    (ChangeSpec.witness6 (enc := enc) (C := Try.checked) false ⟨#[], #[.agg #[.int .i64 0, .slice none 0 0, .slice none 0 0], .agg #[.int .i64 0, .int .i64 0, .slice none 0 0]], []⟩ 8 (by kernel_rfl) (by kernel_rfl) (by kernel_rfl) (by kernel_rfl)) ?_
  intro W base args ds gs before hval0 hW hcnd _
  have hval : ∀ (j : Nat) t v, Try.f11.params[j]? = some t → args[j]? = some v → Value.okWide Try.prog W .any base t v := hval0
  have hW' := hW
  obtain ⟨p, q, hA0, hV, rfl, hfz, hnd⟩ := hW
  have hA : DataW.TrodAll enc Try.prog W 0 (fun _ => true) true Try.f11.params.toList args.toList ds p := hA0
  rw [Try.params11] at hA hval
  obtain ⟨v0, vs0, d0, ds0, p0, q0, hargs, rfl, rfl, h0, r0⟩ := trodAll_cons hA
  obtain ⟨v1, vs1, d1, ds1, p1, q1, rfl, rfl, rfl, h1, r1⟩ := trodAll_cons r0
  obtain ⟨rfl, rfl, rfl⟩ := trodAll_nil r1
  obtain rfl : args = #[v0, v1] := by cases args; simp_all
  obtain ⟨rfl, rfl⟩ := trodVars_none hV
  have k0 := h0
  have lt0 : ∀ x ∈ p0, x.block < W.heap.size := by obtain ⟨m, hm⟩ := k0; exact DataW.trod_lt m _ _ _ hm
  have k1 := h1
  have lt1 : ∀ x ∈ p1, x.block < W.heap.size := by obtain ⟨m, hm⟩ := k1; exact DataW.trod_lt m _ _ _ hm
  obtain ⟨P, A, A2, ss, l, c, c2, rfl, hl, hv, hn, rs, rn⟩ := open_paper (hval 0 _ v0 rfl rfl) h0
  obtain ⟨y1, z1, A10, t1, c10, rfl, hn1, rn1⟩ := open_cut (hval 1 _ v1 rfl rfl) h1
  clear hA0 hval0
  refine (ino_law P ss l y1 z1 t1 A10 c10 A A2 c c2 (max63 hl) (fun s hs => max63 (hv s hs)) W rs rn rn1).mono fun e W' ⟨he, bel⟩ => ?_
  subst he
  exact ⟨_, rfl, _, _, _, [], _, [], hW', trodAll_mk1 (shut_bool Try.underlying4 _), (trodAll_cons_mk (Below.trod row_laid (by kernel_rfl) (of_decide_eq_true (by kernel_rfl)) k0 bel lt0) (trodAll_cons_mk (Below.trod row_laid (by kernel_rfl) (of_decide_eq_true (by kernel_rfl)) k1 bel lt1) trodAll_mk0)), rfl, bel.frame _, fun h => by cases h⟩
theorem inorder_holds : Rows.GroupsInOrderSaid :=
  OpenClaim.holds_of_wide 11 Try.f11 rfl rfl rfl rfl rfl rfl rfl ⟨rfl, rfl, rfl, rfl, rfl⟩ rfl rfl rfl rfl rfl (by kernel_rfl) Try.func11 (by kernel_rfl)
    (of_decide_eq_true (by kernel_rfl)) (by unfold Func.isWrapper; first | (rw [if_pos (by decide +kernel)]; kernel_rfl) | (rw [if_neg (by decide +kernel)]; exact ⟨rfl, rfl⟩))
    (fun os started H enc _ => inorder_lifted os started H enc)
#print axioms inorder_holds
end Go.Proofs.Ytddbnggficlcfaa
