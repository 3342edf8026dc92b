/- WALK: the document's Size of a sign, space, across (printed by gen_sizeq.py). -/
import Derived.Test.YtfkcpcdndleboaaLayW
import Derived.Test.YtfkcpcdndleboaaLayE
import Derived.Test.YtfkcpcdndleboaaSgn6
import Derived.Test.YtfkcpcdndleboaaFigW
import Derived.Test.YtfkcpcdndleboaaLayL
import Derived.Test.YtfkcpcdndleboaaRKids
namespace Go.Proofs.Ytfkcpcdndleboaa
open Go.RowKit
set_option maxRecDepth 100000 in
set_option maxHeartbeats 2000000 in
theorem sgSizeR_any (P : Int) (ss : List Sg) (hE : listE P ss = 0) (hl : ss.length ≤ 1000000) (hv : ∀ s ∈ ss, s.vals.length ≤ 1000000) (A : Option Addr) (c : Nat) (s : Nat) (hs : s < ss.length) (t : Nat) (ht : t ≤ 3) (w : World) (r : Sgs w w.heap.size A ss) :
    Calls Try.prog 99 #[.agg #[.int .i64 P, .slice A ss.length c], .int .i64 s, .int .i64 t] w fun e w' => e = .returned (.tuple #[.int .i64 (sgSz ss s t).1, .int .i64 (sgSz ss s t).2, .int .i64 0]) ∧ Below w.heap.size w w' := by
  obtain ⟨w1, hw1⟩ : ∃ w1, w1 = w.alloc (.cells #[.int .i64 P, .slice A ss.length c] 24) := ⟨_, rfl⟩
  have hb1 : Below w.heap.size w w1 := by rw [hw1]; exact (Below.refl _ _).alloc (Nat.le_refl _) _
  have hz1 : w1.heap.size = w.heap.size + 1 := by rw [hw1]; simp
  have c0 : w1.cell? ⟨w.heap.size, 0, none⟩ = some (.int .i64 P) := by rw [hw1]; exact cell_here rfl rfl
  have c1 : w1.cell? ⟨w.heap.size, 1, none⟩ = some (.slice A ss.length c) := by rw [hw1]; exact cell_here rfl rfl
  have HCK := hid (refListCheck_any P ss hl hv A c w1 ((r.below hb1).more (by omega)))
  rw [hE] at HCK
  obtain ⟨b, o, rfl, hbB, hc⟩ := r.at (by omega)
  have hx := hc s hs
  have hsg : sg ss s = ss[s]'hs := by unfold sg; rw [List.getD_eq_getElem?_getD, List.getElem?_eq_getElem hs]; rfl
  have hsz : sgSz ss s t = if (t : Int) % 2 = 1 then ((ss[s]'hs).high, (ss[s]'hs).wide) else ((ss[s]'hs).wide, (ss[s]'hs).high) := by unfold sgSz; rw [hsg]
  rw [hsz]
  generalize ss[s]'hs = g at hx ⊢
  obtain ⟨N, hN⟩ : ∃ N, N = ss.length := ⟨_, rfl⟩
  rw [← hN] at HCK c1 hw1 hs ⊢
  have HX := hid fun (W : World) (h : Below w1.heap.size w1 W) => (hx.below (B := w.heap.size) (hb1.trans (h.mono hb1.size)) hbB)
  have HC0 := hid fun (wr : World) (h : Below w1.heap.size w1 wr) => (h.cell (p := ⟨w.heap.size, 0, none⟩) (by show w.heap.size < _; omega)).trans c0
  have HC1 := hid fun (wr : World) (h : Below w1.heap.size w1 wr) => (h.cell (p := ⟨w.heap.size, 1, none⟩) (by show w.heap.size < _; omega)).trans c1
  have HW1 := hid hw1; have HB1 := hid hb1
  have q0 : (s : Int) < (N : Int) := by omega
  have q1 : decide ((N : Int) ≤ (s : Int)) = false := decide_eq_false (by omega)
  have q2 : decide ((3 : Int) < (t : Int)) = false := decide_eq_false (by omega)
  have q3 : ¬ (N : Int) ≤ (s : Int) := by omega
  have q4 : ¬ (3 : Int) < (t : Int) := by omega
  have q5 : ¬ 3 < t := by omega
  have q6 : ¬ N ≤ s := by omega
  clear hw1 hb1 hE hv hc hx hsg hsz hl r hN hz1
  by_cases h2 : (t : Int) % 2 = 1
  · rw [if_pos h2]
    have e1 : ((t : Int) % 2 == 1) = true := by simp [h2]
    have e2 : (t % 2 == 1) = true := by simp; omega
    go_enter Try.func99, Try.ntmps99
    go_upto_region 1 with (fail)
    rw [← HW1.out]
    clear HW1
    obtain ⟨B0, hB0⟩ : ∃ B0, B0 = w.heap.size := ⟨_, rfl⟩
    rw [← hB0] at c0 c1 HC0 HC1
    rw [← hB0]
    have HBB := hid hB0
    clear hB0
    go_wp2_with (first | (go_at_call 51; refine HCK.out.mono ?_; rintro e w2 ⟨rfl, hb2⟩; have HB2 := hid hb2; have p1 := HC1.out w2 hb2; have px := HX.out w2 hb2; have d1 := px.code; have d2 := px.wide; have d3 := px.high; have d4 := px.even; have d5 := px.vals; clear px hb2 c0 c1))
    go_quiet (fail)
    go_wp2_with fail
    go_ret3
    exact ⟨rfl, below_drewN (HB1.out.trans (HB2.out.mono HB1.out.size)) _⟩
  · rw [if_neg h2]
    have e1 : ((t : Int) % 2 == 1) = false := by simp; omega
    have e2 : (t % 2 == 1) = false := by simp; omega
    go_enter Try.func99, Try.ntmps99
    go_upto_region 1 with (fail)
    rw [← HW1.out]
    clear HW1
    obtain ⟨B0, hB0⟩ : ∃ B0, B0 = w.heap.size := ⟨_, rfl⟩
    rw [← hB0] at c0 c1 HC0 HC1
    rw [← hB0]
    have HBB := hid hB0
    clear hB0
    go_wp2_with (first | (go_at_call 51; refine HCK.out.mono ?_; rintro e w2 ⟨rfl, hb2⟩; have HB2 := hid hb2; have p1 := HC1.out w2 hb2; have px := HX.out w2 hb2; have d1 := px.code; have d2 := px.wide; have d3 := px.high; have d4 := px.even; have d5 := px.vals; clear px hb2 c0 c1))
    go_quiet (fail)
    go_wp2_with fail
    go_ret3
    exact ⟨rfl, below_drewN (HB1.out.trans (HB2.out.mono HB1.out.size)) _⟩
set_option maxRecDepth 100000 in
theorem spaceR_any (kk dp sg0 tn : Int) (mi : Bool) (st mn mx : Int) (h0 : 0 ≤ dp) (h1 : dp ≤ 4) (w : World) :
    Calls Try.prog 100 #[.agg #[.int .i64 kk, .int .i64 dp, .int .i64 sg0, .int .i64 tn, .bool mi, .int .i64 st, .int .i64 mn, .int .i64 mx]] w fun e w' => e = .returned (.int .i64 (spcOf ⟨kk, dp, sg0, tn, mi, st, mn, mx⟩)) ∧ Below w.heap.size w w' := by
  by_cases h5 : kk = 5
  · have hx : spcOf ⟨kk, dp, sg0, tn, mi, st, mn, mx⟩ = 20 := if_pos h5
    rw [hx]
    subst h5
    clear hx
    go_enter Try.func100, Try.ntmps100
    go_wp2_with fail
    go_ret
    exact ⟨rfl, (Below.refl _ _).alloc (Nat.le_refl _) _⟩
  · have hx : spcOf ⟨kk, dp, sg0, tn, mi, st, mn, mx⟩ = 4 * (5 - dp) := if_neg h5
    have e5 : (kk == 5) = false := by simp [h5]
    rw [hx]
    clear hx h5
    go_enter Try.func100, Try.ntmps100
    go_wp2_with fail
    go_ret
    exact ⟨by go_num, (Below.refl _ _).alloc (Nat.le_refl _) _⟩
set_option maxRecDepth 100000 in
theorem acrossR_any (kk dp sg0 tn : Int) (mi : Bool) (st mn mx d wd : Int) (w : World) :
    Calls Try.prog 101 #[.agg #[.int .i64 kk, .int .i64 dp, .int .i64 sg0, .int .i64 tn, .bool mi, .int .i64 st, .int .i64 mn, .int .i64 mx], .agg #[.int .i64 d, .int .i64 wd]] w fun e w' => e = .returned (.bool (acr (decide (d ≤ 2)) ⟨kk, dp, sg0, tn, mi, st, mn, mx⟩)) ∧ Below w.heap.size w w' := by
  have ha : acr (decide (d ≤ 2)) ⟨kk, dp, sg0, tn, mi, st, mn, mx⟩ = (decide (kk = 2) || (decide (kk = 5) && decide (d ≤ 2))) := rfl
  rw [ha]
  clear ha
  have HRW := hid fun W : World => rowsR_any d wd W
  by_cases h2 : kk = 2
  · subst h2
    go_enter Try.func101, Try.ntmps101
    go_wp2_with fail
    go_ret
    exact ⟨rfl, ((Below.refl _ _).alloc (Nat.le_refl _) _).alloc (by simp) _⟩
  · have e2 : (kk == 2) = false := by simp [h2]
    rw [decide_eq_false h2, Bool.false_or]
    by_cases h5 : kk = 5
    · subst h5
      clear h2
      go_enter Try.func101, Try.ntmps101
      go_wp2_with (first | (go_at_call 85; refine (HRW.out _).mono ?_; rintro e w2 ⟨rfl, hb2⟩; have HB2 := hid (bnext0 (((Below.refl w.heap.size w).alloc (Nat.le_refl _) _).alloc (by simp) _) hb2); clear hb2))
      go_ret
      exact ⟨rfl, HB2.out⟩
    · have e5 : (kk == 5) = false := by simp [h5]
      rw [decide_eq_false h5, Bool.false_and]
      clear h2 h5
      go_enter Try.func101, Try.ntmps101
      go_wp2_with fail
      go_ret
      exact ⟨rfl, ((Below.refl _ _).alloc (Nat.le_refl _) _).alloc (by simp) _⟩
end Go.Proofs.Ytfkcpcdndleboaa

/- WALK: the document's size of a node (printed by gen_sizer.py). -/
namespace Go.Proofs.Ytfkcpcdndleboaa
open Go.RowKit
/-- The size of the first kids. -/
def rszJ (a : Bool) (sp : Int) (z : Nat → Int × Int) : Nat → Int × Int
  | 0 => (0, 0)
  | j + 1 => if a then ((rszJ a sp z j).1 + (z j).1 + (if 0 < j then sp else 0), max (rszJ a sp z j).2 (z j).2) else (max (rszJ a sp z j).1 (z j).1, (rszJ a sp z j).2 + (z j).2 + (if 0 < j then sp else 0))
theorem rszJ_bd {a : Bool} {sp : Int} {z : Nat → Int × Int} (h0 : 0 ≤ sp) (h1 : sp ≤ 20) : ∀ j : Nat, (∀ i, i < j → 0 ≤ (z i).1 ∧ (z i).1 ≤ 26400 ∧ 0 ≤ (z i).2 ∧ (z i).2 ≤ 26400) → (0 ≤ (rszJ a sp z j).1 ∧ (rszJ a sp z j).1 ≤ 27000 * j) ∧ 0 ≤ (rszJ a sp z j).2 ∧ (rszJ a sp z j).2 ≤ 27000 * j
  | 0, _ => ⟨⟨Int.le_refl _, Int.le_refl _⟩, Int.le_refl _, Int.le_refl _⟩
  | j + 1, h => by
    have ih := rszJ_bd (a := a) h0 h1 j fun i hi => h i (by omega)
    have hz := h j (by omega)
    have e : rszJ a sp z (j + 1) = if a then ((rszJ a sp z j).1 + (z j).1 + (if 0 < j then sp else 0), max (rszJ a sp z j).2 (z j).2) else (max (rszJ a sp z j).1 (z j).1, (rszJ a sp z j).2 + (z j).2 + (if 0 < j then sp else 0)) := rfl
    rw [e]
    have hs : 0 ≤ (if 0 < j then sp else 0) ∧ (if 0 < j then sp else 0) ≤ 20 := by split <;> omega
    generalize (if 0 < j then sp else 0) = s at *
    cases a with
    | true => rw [if_pos rfl]; refine ⟨⟨?_, ?_⟩, ?_, ?_⟩ <;> simp only [] <;> omega
    | false => rw [if_neg (by decide)]; refine ⟨⟨?_, ?_⟩, ?_, ?_⟩ <;> simp only [] <;> omega
theorem rszJ_take (a : Bool) (sp : Int) (zs : List (Int × Int)) : ∀ j, j + 1 ≤ zs.length → rszJ a sp (fun i => zs.getD i (0, 0)) (j + 1) = if a then (sp * (j : Int) + sumI ((zs.take (j + 1)).map Prod.fst), maxI ((zs.take (j + 1)).map Prod.snd)) else (maxI ((zs.take (j + 1)).map Prod.fst), sp * (j : Int) + sumI ((zs.take (j + 1)).map Prod.snd))
  | 0, h => by
    obtain ⟨x, xs, rfl⟩ : ∃ x xs, zs = x :: xs := by cases zs with | nil => simp at h | cons x xs => exact ⟨x, xs, rfl⟩
    unfold rszJ rszJ
    cases a <;> simp [sumI, maxI]
  | j + 1, h => by
    have ih := rszJ_take a sp zs j (by omega)
    have e : rszJ a sp (fun i => zs.getD i (0, 0)) (j + 1 + 1) = if a then ((rszJ a sp (fun i => zs.getD i (0, 0)) (j + 1)).1 + (zs.getD (j + 1) (0, 0)).1 + (if 0 < j + 1 then sp else 0), max (rszJ a sp (fun i => zs.getD i (0, 0)) (j + 1)).2 (zs.getD (j + 1) (0, 0)).2) else (max (rszJ a sp (fun i => zs.getD i (0, 0)) (j + 1)).1 (zs.getD (j + 1) (0, 0)).1, (rszJ a sp (fun i => zs.getD i (0, 0)) (j + 1)).2 + (zs.getD (j + 1) (0, 0)).2 + (if 0 < j + 1 then sp else 0)) := rfl
    have hj : j + 1 < zs.length := by omega
    have ez : zs.getD (j + 1) (0, 0) = zs[j + 1] := by rw [List.getD_eq_getElem?_getD, List.getElem?_eq_getElem hj]; rfl
    have et : zs.take (j + 1 + 1) = zs.take (j + 1) ++ [zs[j + 1]] := by rw [List.take_add_one, List.getElem?_eq_getElem hj]; rfl
    rw [e, ih, ez, et, List.map_append, List.map_append, if_pos (Nat.succ_pos j)]
    have hm : sp * ((j + 1 : Nat) : Int) = sp * (j : Int) + sp := by rw [Int.natCast_succ, Int.mul_add, Int.mul_one]
    rw [hm]
    cases a with
    | true => simp only [if_true, List.map_cons, List.map_nil, sumI_snoc, maxI_snoc]; congr 1; omega
    | false => simp only [Bool.false_eq_true, if_false, List.map_cons, List.map_nil, sumI_snoc, maxI_snoc]; congr 1; omega
theorem rszJ_all (a : Bool) (sp : Int) (zs : List (Int × Int)) (h : zs ≠ []) : rszJ a sp (fun i => zs.getD i (0, 0)) zs.length = putS a sp zs := by
  obtain ⟨j, hj⟩ : ∃ j, zs.length = j + 1 := by cases zs with | nil => exact absurd rfl h | cons x xs => exact ⟨xs.length, rfl⟩
  have h1 := rszJ_take a sp zs j (by omega)
  rw [hj, h1, show zs.take (j + 1) = zs by rw [← hj, List.take_length]]
  unfold putS
  rw [hj, show ((j + 1 : Nat) : Int) - 1 = j by omega]
/-- The size, with or without a ring's border. -/
def rsz (ss : List Sg) (l : List Nd) (rows inn : Bool) : Nat → Nat → Int × Int
  | 0, _ => (0, 0)
  | f + 1, i => if kd l i = 5 ∧ inn = true then inZ rows l (szN ss l rows f) i else szN ss l rows (f + 1) i
theorem rsz_false {ss : List Sg} {l : List Nd} {rows : Bool} : ∀ f i, rsz ss l rows false f i = szN ss l rows f i
  | 0, _ => rfl
  | _ + 1, _ => if_neg (by simp)
def RszOk (P : Int) (ss : List Sg) (l : List Nd) (d wd : Int) (f i : Nat) : Prop := ∀ (inn : Bool) (A A2 : Option Addr) (c c2 : Nat) (w : World), Sgs w w.heap.size A ss → Nds w w.heap.size A2 l →
  Calls Try.prog 65 #[.agg #[.int .i64 P, .slice A ss.length c], .agg #[.slice A2 l.length c2], .agg #[.int .i64 d, .int .i64 wd], .int .i64 i, .bool inn] w fun e w' => e = .returned (.tuple #[.int .i64 (rsz ss l (decide (d ≤ 2)) inn f i).1, .int .i64 (rsz ss l (decide (d ≤ 2)) inn f i).2]) ∧ Below w.heap.size w w'
set_option maxRecDepth 100000 in
set_option maxHeartbeats 4000000 in
theorem rsz_step (P : Int) (ss : List Sg) (l : List Nd) (d wd : Int) (hp : Pln P ss l) (hsl : ss.length ≤ 1000000) (hsv : ∀ s ∈ ss, s.vals.length ≤ 1000000) (f i : Nat) (hi : i < l.length) (hf : l.length ≤ f + 1 + i) (ih : ∀ k, i < k → k < l.length → RszOk P ss l d wd f k) : RszOk P ss l d wd (f + 1) i := by
  intro inn A A2 c c2 w rs rn
  have hn : l.length ≤ 200 := hp.len
  have hro := sgSizeR_any P ss hp.list hsl hsv A c
  have HKC := hid fun (W : World) (r : Nds W W.heap.size A2 l) => refKids_any l (i : Int) (by omega) (by omega) hp.val.good.deps (by omega) A2 c2 W r
  rw [rkids_eq hp.val.good.wf (by omega) (by omega)] at HKC
  obtain ⟨b, o, rfl, hbB, hc⟩ := rn.at (by omega)
  have hx := hc i hi
  have hkr := own_zero hi (hp.val.1 i hi)
  have h7 := hp.no7 i hi
  have hlf := own_leaf hp.val hi
  have hov := fun h4 => over_kids hp.val hi h4
  have hkm := fun k (hk : k ∈ kidsOf l (i : Int)) => kidsOf_mem (l := l) (node := (i : Int)) (by omega) (by omega) hk
  have hkn := fun (h : leafB (kd l i) = false) => kids_ne hp.val hi h
  have hkz := fun k (hk : k ∈ kidsOf l (i : Int)) => szN_ok (rows := decide (d ≤ 2)) hp f k (by have := hkm k hk; omega) (by have := hkm k hk; omega)
  have hsp := spc_ok hp.val hi
  have hsz : ∀ (s t : Nat), s < ss.length → (1 ≤ (sgSz ss s t).1 ∧ (sgSz ss s t).1 ≤ 12) ∧ 1 ≤ (sgSz ss s t).2 ∧ (sgSz ss s t).2 ≤ 12 := fun s t hs => by
    have := sg_size hp.list hs
    unfold sgSz
    split
    · exact ⟨this.2, this.1⟩
    · exact this
  have hkd : kd l i = (nd l i).kind := by rw [nd_at hi, kd_at hi]
  have hdd : dep l i = (nd l i).depth := by rw [nd_at hi, dep_at hi]
  -- what the result is
  have hz := (show rsz ss l (decide (d ≤ 2)) inn (f + 1) i = if kd l i = 5 ∧ inn = true then inZ (decide (d ≤ 2)) l (szN ss l (decide (d ≤ 2)) f) i else szN ss l (decide (d ≤ 2)) (f + 1) i from rfl)
  have hz2 := (show szN ss l (decide (d ≤ 2)) (f + 1) i = if leafB (kd l i) = true then leafSz ss (nd l i) else if kd l i = 4 then leafSz ss (nd l (i + 1)) else
    if kd l i = 5 then ((inZ (decide (d ≤ 2)) l (szN ss l (decide (d ≤ 2)) f) i).1 + 24, (inZ (decide (d ≤ 2)) l (szN ss l (decide (d ≤ 2)) f) i).2 + 24) else inZ (decide (d ≤ 2)) l (szN ss l (decide (d ≤ 2)) f) i from rfl)
  rw [hz2] at hz
  have hz1 : (nd l i).kind = 1 → rsz ss l (decide (d ≤ 2)) inn (f + 1) i = (4 * (sgSz ss (nd l i).sign.toNat (nd l i).turn).1, 4 * (sgSz ss (nd l i).sign.toNat (nd l i).turn).2) := fun h => by
    rw [hz, hkd, h, if_neg (by omega), if_pos (show leafB 1 = true from rfl)]
    unfold leafSz sgSz
    rw [if_neg (by omega)]
    split <;> rfl
  have hz6 : (nd l i).kind = 6 → rsz ss l (decide (d ≤ 2)) inn (f + 1) i = (12 * (nd l i).mx, 24) := fun h => by
    rw [hz, hkd, h, if_neg (by omega), if_pos (show leafB 6 = true from rfl)]
    unfold leafSz
    rw [if_pos h]
  have hz4 : (nd l i).kind = 4 → rsz ss l (decide (d ≤ 2)) inn (f + 1) i = szN ss l (decide (d ≤ 2)) f (i + 1) := fun h => by
    have h4 := hov (hkd.trans h)
    rw [hz, hkd, h, if_neg (by omega), if_neg (by decide), if_pos rfl]
    obtain ⟨g, rfl⟩ : ∃ g, f = g + 1 := ⟨f - 1, by have := h4.2.1; omega⟩
    unfold szN
    rw [h4.2.2.1, if_pos (by rfl)]
  have hzg : (nd l i).kind = 2 ∨ (nd l i).kind = 3 ∨ (nd l i).kind = 5 → rsz ss l (decide (d ≤ 2)) inn (f + 1) i = if (nd l i).kind = 5 ∧ inn = false then ((inZ (decide (d ≤ 2)) l (szN ss l (decide (d ≤ 2)) f) i).1 + 24, (inZ (decide (d ≤ 2)) l (szN ss l (decide (d ≤ 2)) f) i).2 + 24) else inZ (decide (d ≤ 2)) l (szN ss l (decide (d ≤ 2)) f) i := fun h => by
    rw [hz, hkd]
    have hlb : ¬ leafB (nd l i).kind = true := by unfold leafB; simp; omega
    rw [if_neg hlb, if_neg (show ¬ (nd l i).kind = 4 by omega)]
    by_cases h5 : (nd l i).kind = 5
    · cases inn
      · rw [if_neg (by simp), if_pos h5, if_pos ⟨h5, rfl⟩]
      · rw [if_pos ⟨h5, rfl⟩, if_neg (by simp)]
    · rw [if_neg (fun h => h5 h.1), if_neg h5, if_neg (fun h => h5 h.1)]
  have hin : (nd l i).kind = 2 ∨ (nd l i).kind = 3 ∨ (nd l i).kind = 5 → inZ (decide (d ≤ 2)) l (szN ss l (decide (d ≤ 2)) f) i = rszJ (acr (decide (d ≤ 2)) (nd l i)) (spcOf (nd l i)) (fun j => ((kidsOf l (i : Int)).map (szN ss l (decide (d ≤ 2)) f)).getD j (0, 0)) (kidsOf l (i : Int)).length := fun h => by
    have hne : (kidsOf l (i : Int)).map (szN ss l (decide (d ≤ 2)) f) ≠ [] := by
      intro h0
      exact hkn (by rw [hkd]; unfold leafB; simp; omega) (List.map_eq_nil_iff.1 h0)
    have := rszJ_all (acr (decide (d ≤ 2)) (nd l i)) (spcOf (nd l i)) _ hne
    rw [List.length_map] at this
    exact this.symm
  clear hz hz2 hkn
  have hov4 : (nd l i).kind = 4 → kidsOf l (i : Int) = [i + 1, i + 2] ∧ i + 1 < l.length := fun h => by have h4 := hov (hkd.trans h); exact ⟨h4.1, by have := h4.2.1; omega⟩
  clear hov
  rw [hkd, hdd] at hkr
  rw [hkd] at h7
  rw [← nd_at hi] at hx
  clear hkd hdd
  generalize rsz ss l (decide (d ≤ 2)) inn (f + 1) i = Z at *
  generalize inZ (decide (d ≤ 2)) l (szN ss l (decide (d ≤ 2)) f) i = I at *
  obtain ⟨z, hzd⟩ : ∃ z : Nat → Int × Int, z = fun j => ((kidsOf l (i : Int)).map (szN ss l (decide (d ≤ 2)) f)).getD j (0, 0) := ⟨_, rfl⟩
  rw [← hzd] at hin
  have hzk : ∀ j (hj : j < (kidsOf l (i : Int)).length), z j = szN ss l (decide (d ≤ 2)) f (kidsOf l (i : Int))[j] := fun j hj => by
    rw [hzd]; simp only []; rw [List.getD_eq_getElem?_getD, List.getElem?_map, List.getElem?_eq_getElem hj]; rfl
  have hzb : ∀ j, j < (kidsOf l (i : Int)).length → 0 ≤ (z j).1 ∧ (z j).1 ≤ 26400 ∧ 0 ≤ (z j).2 ∧ (z j).2 ≤ 26400 := fun j hj => by
    rw [hzk j hj]
    have hm := hkm _ (List.getElem_mem hj)
    have h1 := hkz _ (List.getElem_mem hj)
    have h2 : spn l (kidsOf l (i : Int))[j] ≤ 200 := by unfold spn; have := endOf_le (l := l) (i := (kidsOf l (i : Int))[j]) (by omega); omega
    have a1 := h1.p1; have a2 := h1.p2; have a3 := h1.b1; have a4 := h1.b2
    omega
  have hkl : (kidsOf l (i : Int)).length ≤ 200 := by rw [← rkids_eq hp.val.good.wf (by omega) (by omega)]; exact Nat.le_trans rkids_len hn
  have hRZ := fun (k : Nat) (h1 : i < k) (h2 : k < l.length) (W : World) (r1 : Sgs W W.heap.size A ss) (r2 : Nds W W.heap.size (some ⟨b, o, none⟩) l) => (show Calls Try.prog 65 #[.agg #[.int .i64 P, .slice A ss.length c], .agg #[.slice (some ⟨b, o, none⟩) l.length c2], .agg #[.int .i64 d, .int .i64 wd], .int .i64 k, .bool false] W fun e w' => e = .returned (.tuple #[.int .i64 (szN ss l (decide (d ≤ 2)) f k).1, .int .i64 (szN ss l (decide (d ≤ 2)) f k).2]) ∧ Below W.heap.size W w' from by
    have := ih k h1 h2 false A (some ⟨b, o, none⟩) c c2 W r1 r2
    rwa [rsz_false] at this)
  obtain ⟨kf, hkf⟩ : ∃ kf : Nat → Nat, kf = fun j => (kidsOf l (i : Int)).getD j 0 := ⟨_, rfl⟩
  have hke : ∀ j (hj : j < (kidsOf l (i : Int)).length), (kidsOf l (i : Int))[j] = kf j := fun j hj => by rw [hkf]; simp only []; rw [List.getD_eq_getElem?_getD, List.getElem?_eq_getElem hj]; rfl
  have hRK := fun (j : Nat) (hj : j < (kidsOf l (i : Int)).length) (W : World) (r1 : Sgs W W.heap.size A ss) (r2 : Nds W W.heap.size (some ⟨b, o, none⟩) l) => (show Calls Try.prog 65 #[.agg #[.int .i64 P, .slice A ss.length c], .agg #[.slice (some ⟨b, o, none⟩) l.length c2], .agg #[.int .i64 d, .int .i64 wd], .int .i64 (kf j), .bool false] W fun e w' => e = .returned (.tuple #[.int .i64 (z j).1, .int .i64 (z j).2]) ∧ Below W.heap.size W w' from by
    have := hRZ (kidsOf l (i : Int))[j] (by have := hkm _ (List.getElem_mem hj); omega) (by have := hkm _ (List.getElem_mem hj); omega) W r1 r2
    rw [← hzk j hj, hke j hj] at this
    exact this)
  have hcl : ∀ j, j < (kidsOf l (i : Int)).length → (ints (nz (kidsOf l (i : Int))))[j]? = some (.int .i64 (kf j)) := fun j hj => by
    rw [← hke j hj]; unfold ints nz; simp [List.getElem?_eq_getElem hj]
  have hk0 : (nd l i).kind = 4 → 0 < (kidsOf l (i : Int)).length ∧ kf 0 = i + 1 := fun h => by
    rw [hkf]; simp only []; rw [(hov4 h).1]; exact ⟨by simp, rfl⟩
  have hR4 := fun (h : i + 1 < l.length) => hRZ (i + 1) (by omega) h
  clear hzd hRZ ih hkz hkm hkf hke hzk
  -- the node
  have hsg : acr (decide (d ≤ 2)) (nd l i) = acr (decide (d ≤ 2)) ⟨(nd l i).kind, (nd l i).depth, (nd l i).sign, (nd l i).turn, (nd l i).mir, (nd l i).state, (nd l i).mn, (nd l i).mx⟩ := rfl
  generalize nd l i = g at *
  obtain ⟨kk, dp, sg0, tn, mi, st, mn, mx⟩ := g
  simp only [] at hkr h7 hlf hz1 hz6 hz4 hzg hov4 hin hk0
  have hx3 := ((hx.below (((Below.refl w.heap.size w).alloc (Nat.le_refl _) (.cells #[.int .i64 P, .slice A ss.length c] 24)).alloc (by simp) (.cells #[.slice (some ⟨b, o, none⟩) l.length c2] 27)) hbB).below ((Below.refl _ _).alloc (Nat.le_refl _) (.cells #[.int .i64 d, .int .i64 wd] 31)) (by simp; omega))
  have d1 := hx3.kind; have d2 := hx3.depth; have d3 := hx3.sign; have d4 := hx3.turn; have d5 := hx3.mir; have d6 := hx3.state; have d7 := hx3.mn; have d8 := hx3.mx
  simp only [] at d1 d2 d3 d4 d5 d6 d7 d8
  clear hx3
  have HSP := hid fun (W : World) => spaceR_any kk dp sg0 tn mi st mn mx hkr.2.1.1 hkr.2.1.2 W
  have HAC := hid fun (W : World) => acrossR_any kk dp sg0 tn mi st mn mx d wd W
  generalize acr (decide (d ≤ 2)) ⟨kk, dp, sg0, tn, mi, st, mn, mx⟩ = a at *
  generalize spcOf ⟨kk, dp, sg0, tn, mi, st, mn, mx⟩ = sp at *
  have HBJ := hid (rszJ_bd (a := a) (sp := sp) (z := z) (by omega) hsp.2.1)
  obtain ⟨w1, hw1⟩ : ∃ w1, w1 = (((w.alloc (.cells #[.int .i64 P, .slice A ss.length c] 24)).alloc (.cells #[.slice (some ⟨b, o, none⟩) l.length c2] 27)).alloc (.cells #[.int .i64 d, .int .i64 wd] 31)).alloc (.cells #[.int .i64 kk, .int .i64 dp, .int .i64 sg0, .int .i64 tn, .bool mi, .int .i64 st, .int .i64 mn, .int .i64 mx] 49) := ⟨_, rfl⟩
  have hb1 : Below w.heap.size w w1 := by rw [hw1]; exact ((((Below.refl _ _).alloc (Nat.le_refl _) _).alloc (by simp) _).alloc (by simp; omega) _).alloc (by simp; omega) _
  have hz1' : w1.heap.size = w.heap.size + 4 := by rw [hw1]; simp
  have g0 : w1.heap[w.heap.size]? = some (.cells #[.int .i64 P, .slice A ss.length c] 24 (0, 0)) := by rw [hw1]; exact old_blk (old_blk (old_blk (nw_blk rfl)))
  have g1 : w1.heap[w.heap.size + 1]? = some (.cells #[.slice (some ⟨b, o, none⟩) l.length c2] 27 (0, 0)) := by rw [hw1]; exact old_blk (old_blk (nw_blk (by simp)))
  have g2 : w1.heap[w.heap.size + 2]? = some (.cells #[.int .i64 d, .int .i64 wd] 31 (0, 0)) := by rw [hw1]; exact old_blk (nw_blk (by simp))
  have g3 : w1.heap[w.heap.size + 3]? = some (.cells #[.int .i64 kk, .int .i64 dp, .int .i64 sg0, .int .i64 tn, .bool mi, .int .i64 st, .int .i64 mn, .int .i64 mx] 49 (0, 0)) := by rw [hw1]; exact nw_blk (by simp)
  have HC := hid fun (W : World) (h : Below w1.heap.size w1 W) => (show ((W.cell? ⟨w.heap.size, 0, none⟩ = some (.int .i64 P) ∧ W.cell? ⟨w.heap.size, 1, none⟩ = some (.slice A ss.length c)) ∧ W.cell? ⟨w.heap.size + 1, 0, none⟩ = some (.slice (some ⟨b, o, none⟩) l.length c2) ∧ W.cell? ⟨w.heap.size + 2, 0, none⟩ = some (.int .i64 d) ∧ W.cell? ⟨w.heap.size + 2, 1, none⟩ = some (.int .i64 wd)) ∧
    ((W.cell? ⟨w.heap.size + 3, 0, none⟩ = some (.int .i64 kk) ∧ W.cell? ⟨w.heap.size + 3, 1, none⟩ = some (.int .i64 dp)) ∧ W.cell? ⟨w.heap.size + 3, 2, none⟩ = some (.int .i64 sg0) ∧ W.cell? ⟨w.heap.size + 3, 3, none⟩ = some (.int .i64 tn)) ∧ (W.cell? ⟨w.heap.size + 3, 4, none⟩ = some (.bool mi) ∧ W.cell? ⟨w.heap.size + 3, 5, none⟩ = some (.int .i64 st)) ∧ W.cell? ⟨w.heap.size + 3, 6, none⟩ = some (.int .i64 mn) ∧ W.cell? ⟨w.heap.size + 3, 7, none⟩ = some (.int .i64 mx) from by
    have e0 := (h.block _ (by omega)).trans g0
    have e1 := (h.block _ (by omega)).trans g1
    have e2 := (h.block _ (by omega)).trans g2
    have e3 := (h.block _ (by omega)).trans g3
    refine ⟨⟨⟨?_, ?_⟩, ?_, ?_, ?_⟩, ⟨⟨?_, ?_⟩, ?_, ?_⟩, ⟨?_, ?_⟩, ?_, ?_⟩ <;> simp [World.cell?, e0, e1, e2, e3])
  have HRN := hid fun (W : World) (h : Below w1.heap.size w1 W) => (show Nds W W.heap.size (some ⟨b, o, none⟩) l from Reads.more (rn.below (hb1.trans (h.mono hb1.size))) (Nat.le_trans hb1.size h.size))
  have HRS := hid fun (W : World) (h : Below w1.heap.size w1 W) => (show Sgs W W.heap.size A ss from (rs.below (hb1.trans (h.mono hb1.size))).more (Nat.le_trans hb1.size h.size))
  have HK1 := hid (HKC.out w1 (HRN.out w1 (Below.refl _ _)))
  have HLF := hid hlf; have HOV := hid hov4; have HRK := hid hRK; have HR4 := hid hR4; have HCL := hid hcl; have HK0 := hid hk0; have HZB := hid hzb
  have H1 := hid hz1; have H6 := hid hz6; have H4 := hid hz4; have HG := hid hzg; have HIN := hid hin
  have HRO := hid hro; have HSZ := hid hsz
  have hkk : kk = 1 ∨ kk = 6 ∨ kk = 4 ∨ (kk = 2 ∨ kk = 3 ∨ kk = 5) := by omega
  have hs0 := hsp.1; have hs1 := hsp.2.1
  generalize kidsOf l (i : Int) = ks at *
  obtain ⟨m, hm⟩ : ∃ m, m = ks.length := ⟨_, rfl⟩
  rw [← hm] at hkl HK1 HIN HZB HRK HCL HK0
  have HM := hid hm
  clear hm hlf hov4 hRK hR4 hcl hk0 hzb hz1 hz6 hz4 hzg hin hro hsz HKC rs rn hx hkr h7 hc hp hsv hsl hsp hsg
  have HW1 := hid hw1; have HB1 := hid hb1; have HSS := hid hf
  have q5 : (i : Int) < (l.length : Int) := by omega
  have HII := hid hi
  clear hw1 hb1 hf hi
  generalize hnl : l.length = n at *
  have HNL := hid hnl
  clear hnl
  generalize hsl : ss.length = N at *
  have HSL := hid hsl
  clear hsl g0 g1 g2 g3
  go_enter Try.func65, Try.ntmps65
  go_upto_region 2 with (fail)
  simp only [Nat.add_assoc, Nat.reduceAdd]
  rw [← HW1.out]
  clear HW1 d1 d2 d3 d4 d5 d6 d7 d8
  obtain ⟨B0, hB0⟩ : ∃ B0, B0 = w.heap.size := ⟨_, rfl⟩
  obtain ⟨B1, hB1⟩ : ∃ B1, B1 = B0 + 1 := ⟨_, rfl⟩
  obtain ⟨B2, hB2⟩ : ∃ B2, B2 = B0 + 2 := ⟨_, rfl⟩
  obtain ⟨B3, hB3⟩ : ∃ B3, B3 = B0 + 3 := ⟨_, rfl⟩
  rw [← hB0] at HC
  rw [← hB1, ← hB2, ← hB3] at HC
  rw [← hB0]
  try rw [← hB1]
  try rw [← hB2]
  try rw [← hB3]
  have HB0 := hid hB0
  clear hB0 hB1 hB2 hB3 hz1'
  obtain ⟨⟨⟨c0, c1⟩, c2', c3, c4⟩, ⟨⟨n0, n1⟩, n2, n3⟩, ⟨n4, n5⟩, n6, n7⟩ := HC.out w1 (Below.refl _ _)
  go_upto_region 3 with (first | (go_at_call 66; refine HK1.out.mono ?_; rintro e w2 ⟨v2, rfl, ho2, hb2⟩; obtain ⟨A3, c3', rfl⟩ := own_slice ho2; have HO2 := hid (Reads.of_own ho2); have HB2 := hid hb2; clear ho2 hb2))
  clear c0 c1 c2' c3 c4 n0 n1 n2 n3 n4 n5 n6 n7
  obtain ⟨⟨⟨c0, c1⟩, c2', c3, c4⟩, ⟨⟨n0, n1⟩, n2, n3⟩, ⟨n4, n5⟩, n6, n7⟩ := HC.out w2 HB2.out
  rcases hkk with h1 | h6 | h4 | hg
  · -- a sign
    obtain ⟨⟨a1, a2, a3, a4⟩, _⟩ := show (0 ≤ sg0 ∧ sg0 < N ∧ 0 ≤ tn ∧ tn ≤ 3) ∧ True from ⟨HLF.out.1 h1, trivial⟩
    obtain ⟨s, rfl⟩ := Int.eq_ofNat_of_zero_le a1
    obtain ⟨t, rfl⟩ := Int.eq_ofNat_of_zero_le a3
    have HX := hid (H1.out h1)
    have hs : s < N := by omega
    have HCZ := hid (HRO.out s hs t (by omega) w2 (HRS.out w2 HB2.out))
    have hbz := HSZ.out s t hs
    rw [Int.toNat_natCast] at HX
    subst h1
    generalize sgSz ss s (t : Int) = q at HX HCZ hbz
    obtain ⟨qw, qh⟩ := q
    simp only [] at HX HCZ hbz
    obtain ⟨⟨b1, b2⟩, b3, b4⟩ := hbz
    clear a1 a2 a3 a4 HLF HOV HRK HR4 HCL HK0 HZB H1 H6 H4 HG HIN HRO HSZ HSP HAC HBJ HO2
    go_wp2_with (first | (go_at_call 99; refine HCZ.out.mono ?_; rintro e w3 ⟨rfl, hb3⟩; have HB3 := hid hb3; clear hb3))
    go_ret2
    exact ⟨by rw [HX.out]; go_num, HB1.out.trans (Below.mono (bnext0 HB2.out HB3.out) HB1.out.size)⟩
  · -- a gap
    have HX := hid (H6.out h6)
    have hmx := HLF.out.2 h6
    have b1 := hmx.1; have b2 := hmx.2
    subst h6
    clear hmx HLF HOV HRK HR4 HCL HK0 HZB H1 H6 H4 HG HIN HRO HSZ HSP HAC HBJ HO2
    go_wp2_with fail
    go_ret2
    exact ⟨by rw [HX.out]; go_num, HB1.out.trans (Below.mono HB2.out HB1.out.size)⟩
  · -- an Over
    have HX := hid (H4.out h4)
    obtain ⟨k0, k1⟩ := HK0.out h4
    obtain ⟨b2, o2, rfl, hb2B, hc2⟩ := Reads.at0 HO2.out k0 (by unfold ints nz; simp; rw [← HM.out]; exact k0)
    have hk : w2.cell? ⟨b2, o2, none⟩ = _ := hc2 0 _ (HCL.out 0 k0)
    rw [k1] at hk
    have hr := HR4.out (HOV.out h4).2
    obtain ⟨i1, hi1⟩ : ∃ i1, i1 = i + 1 := ⟨_, rfl⟩
    rw [← hi1] at hr HX hk
    have HR := hid hr
    clear hr hi1
    have HBZ := hid fun z : BW w2.heap.size w2 => (show Below w1.heap.size w1 z.val from HB2.out.trans (z.ok.mono HB2.out.size))
    have HZ := hid (below_class (wb := w2) (Nat.le_refl w2.heap.size) fun z => HR.out z.val (HRS.out z.val (HBZ.out z)) (HRN.out z.val (HBZ.out z)))
    have cz := fun z : BW w2.heap.size w2 => HC.out z.val (HBZ.out z)
    have hkz := fun z : BW w2.heap.size w2 => (z.ok.cell (p := ⟨b2, o2, none⟩) hb2B).trans hk
    subst h4
    clear hb2B hc2 hk HLF HOV HRK HR4 HCL HK0 HZB H1 H6 H4 HG HIN HRO HSZ HSP HAC HBJ HO2 k1
    have k2 : (0 : Int) < (m : Int) := by omega
    go_upto_region 10 with (fail)
    clear c0 c1 c2' c3 c4 n0 n1 n2 n3 n4 n5 n6 n7
    have j0 := fun z => (cz z).1.1.1; have j1 := fun z => (cz z).1.1.2; have j2 := fun z => (cz z).1.2.1; have j3 := fun z => (cz z).1.2.2.1; have j4 := fun z => (cz z).1.2.2.2
    clear cz
    generalize szN ss l (decide (d ≤ 2)) f i1 = q at HX HZ
    obtain ⟨qw, qh⟩ := q
    simp only [] at HX HZ
    refine region_below (by kernel_rfl) (by kernel_rfl) (Below.refl w2.heap.size w2) ?_
    repeat (go_big_quiet_step (first | (go_at_call 65; with_reducible exact (HZ.out _))))
    refine wpQuiet_nil ?_
    intro _ hw'
    obtain ⟨y, rfl⟩ := hw'
    have HY := hid y.ok
    clear j0 j1 j2 j3 j4 hkz
    go_wp2_with fail
    go_ret2
    exact ⟨by rw [HX.out]; rfl, HB1.out.trans (Below.mono (bnext0 HB2.out HY.out) HB1.out.size)⟩
  · -- kids
    have e1 : (kk == 1) = false := by rcases hg with rfl | rfl | rfl <;> rfl
    have e4 : (kk == 4) = false := by rcases hg with rfl | rfl | rfl <;> rfl
    have e6 : (kk == 6) = false := by rcases hg with rfl | rfl | rfl <;> rfl
    have HX := hid (HG.out hg); have HI := hid (HIN.out hg)
    clear hg HLF HOV HR4 HK0 H1 H6 H4 HG HIN HRO HSZ
    go_upto_if 15 with (fail)
    clear c0 c1 c2' c3 c4 n0 n1 n2 n3 n4 n5 n6 n7
    go_loopw [17, 18, 19] (fun x y jv wr => ∃ j : Nat, j ≤ m ∧ jv = .int .i64 j ∧ x = .int .i64 (rszJ a sp z j).1 ∧ y = .int .i64 (rszJ a sp z j).2 ∧ Hid (Below w2.heap.size w2 wr)) (fun _ _ jv _ => m - (intOf jv).toNat)
    case atStart => exact ⟨0, by omega, rfl, rfl, rfl, hid (Below.refl _ _)⟩
    case round =>
      obtain ⟨j, hj, rfl, rfl, rfl, hB⟩ := hrel
      have hbj := HBJ.out j fun t ht => HZB.out t (by omega)
      by_cases hjm : j < m
      · have hzj := HZB.out j hjm
        have HBR := hid (show Below w1.heap.size w1 wr from HB2.out.trans (hB.out.mono HB2.out.size))
        obtain ⟨b2, o2, rfl, hb2B, hc2⟩ := Reads.at0 HO2.out (by omega) (by unfold ints nz; simp; rw [← HM.out]; omega)
        have hk := (hB.out.cell (p := ⟨b2, o2 + j, none⟩) hb2B).trans (hc2 j _ (HCL.out j hjm))
        have hkB : b2 < wr.heap.size := Nat.lt_of_lt_of_le hb2B hB.out.size
        have HS := hid (show rszJ a sp z (j + 1) = if a then ((rszJ a sp z j).1 + (z j).1 + (if 0 < j then sp else 0), max (rszJ a sp z j).2 (z j).2) else (max (rszJ a sp z j).1 (z j).1, (rszJ a sp z j).2 + (z j).2 + (if 0 < j then sp else 0)) from rfl)
        have HR := hid (HRK.out j hjm)
        obtain ⟨p2, hp2⟩ : ∃ p2, p2 = rszJ a sp z (j + 1) := ⟨_, rfl⟩
        rw [← hp2] at HS
        have HP2 := hid hp2
        clear hp2
        generalize rszJ a sp z j = p1 at *
        generalize z j = q at *
        obtain ⟨x, y⟩ := p1
        obtain ⟨qw, qh⟩ := q
        simp only [] at HS HR hbj hzj
        obtain ⟨⟨t1, t2⟩, t3, t4⟩ := hbj
        obtain ⟨t5, t6, t7, t8⟩ := hzj
        have hj2 : (27000 : Int) * j ≤ 5400000 := by omega
        have HBZ := hid fun y : BW wr.heap.size wr => (show Below w1.heap.size w1 y.val from HBR.out.trans (y.ok.mono HBR.out.size))
        have HZ := hid (below_class (wb := wr) (Nat.le_refl wr.heap.size) fun z => HR.out z.val (HRS.out z.val (HBZ.out z)) (HRN.out z.val (HBZ.out z)))
        have cz := fun z : BW wr.heap.size wr => HC.out z.val (HBZ.out z)
        have hkz := fun z : BW wr.heap.size wr => (z.ok.cell (p := ⟨b2, o2 + j, none⟩) hkB).trans hk
        have j0 := fun z => (cz z).1.1.1; have j1 := fun z => (cz z).1.1.2; have j2 := fun z => (cz z).1.2.1; have j3 := fun z => (cz z).1.2.2.1; have j4 := fun z => (cz z).1.2.2.2
        have g0 : (j : Int) < (m : Int) := by omega
        clear cz hc2 hk hb2B hkB HR HO2
        cases a with
        | true =>
          have hs := HS.out
          rw [if_pos rfl] at hs
          by_cases hj0 : 0 < j
          · rw [if_pos hj0] at hs
            have g1 : decide ((0 : Int) < (j : Int)) = true := by simp; omega
            have hs : (x + qw + sp) = p2.1 ∧ (max y qh) = p2.2 := by
              have h1 := congrArg Prod.fst hs; have h2 := congrArg Prod.snd hs; simp only [] at h1 h2; exact ⟨h1.symm, h2.symm⟩
            replace HS := hid hs
            clear hs
            go_upto_region 15 with (fail)
            refine region_below (by kernel_rfl) (by kernel_rfl) (Below.refl wr.heap.size wr) ?_
            repeat (go_big_quiet_step (first | (go_at_call 65; with_reducible exact (HZ.out _))))
            refine wpQuiet_nil ?_
            intro _ hw'
            obtain ⟨u, rfl⟩ := hw'
            have HU := hid (show Below w2.heap.size w2 u.val from bnext0 hB.out u.ok)
            obtain ⟨⟨_, _, v3, v4⟩, ⟨⟨n0, n1⟩, n2, n3⟩, ⟨n4, n5⟩, n6, n7⟩ := HC.out u.val (HBZ.out u)
            have HND := hid fun (W : World) (h : Below u.val.heap.size u.val W) => HC.out W (bnext0 (HBZ.out u) h)
            clear j0 j1 j2 j3 j4 hkz
            go_wp2_with (first | (go_at_call 100; refine (HSP.out _).mono ?_; rintro e w5 ⟨rfl, hb5⟩; clear v3 v4 n0 n1 n2 n3 n4 n5 n6 n7; obtain ⟨⟨_, _, v3, v4⟩, ⟨⟨n0, n1⟩, n2, n3⟩, ⟨n4, n5⟩, n6, n7⟩ := HND.out w5 hb5; have HB5 := hid hb5; clear hb5) | (go_at_call 101; refine (HAC.out _).mono ?_; rintro e w6 ⟨rfl, hb6⟩; have HB6 := hid (bnext0 HU.out (bnext0 HB5.out hb6)); clear hb6))
            all_goals
              go_roundw
              case rel => exact ⟨j + 1, by omega, by go_num, by rw [← HP2.out]; first | exact congrArg (Value.int .i64) HS.out.1 | (rw [← HS.out.1]; go_num), by rw [← HP2.out]; first | exact congrArg (Value.int .i64) HS.out.2 | (rw [← HS.out.2]; go_num), HB6⟩
              case measure => simp [intOf]; omega
          · rw [if_neg hj0] at hs
            have g1 : decide ((0 : Int) < (j : Int)) = false := by simp; omega
            have hs : (x + qw + 0) = p2.1 ∧ (max y qh) = p2.2 := by
              have h1 := congrArg Prod.fst hs; have h2 := congrArg Prod.snd hs; simp only [] at h1 h2; exact ⟨h1.symm, h2.symm⟩
            replace HS := hid hs
            clear hs
            go_upto_region 15 with (fail)
            refine region_below (by kernel_rfl) (by kernel_rfl) (Below.refl wr.heap.size wr) ?_
            repeat (go_big_quiet_step (first | (go_at_call 65; with_reducible exact (HZ.out _))))
            refine wpQuiet_nil ?_
            intro _ hw'
            obtain ⟨u, rfl⟩ := hw'
            have HU := hid (show Below w2.heap.size w2 u.val from bnext0 hB.out u.ok)
            obtain ⟨⟨_, _, v3, v4⟩, ⟨⟨n0, n1⟩, n2, n3⟩, ⟨n4, n5⟩, n6, n7⟩ := HC.out u.val (HBZ.out u)
            have HND := hid fun (W : World) (h : Below u.val.heap.size u.val W) => HC.out W (bnext0 (HBZ.out u) h)
            clear j0 j1 j2 j3 j4 hkz
            go_wp2_with (first | (go_at_call 101; refine (HAC.out _).mono ?_; rintro e w6 ⟨rfl, hb6⟩; have HB6 := hid (bnext0 HU.out (bnext0 (Below.refl _ _) hb6)); clear hb6))
            all_goals
              go_roundw
              case rel => exact ⟨j + 1, by omega, by go_num, by rw [← HP2.out]; first | exact congrArg (Value.int .i64) HS.out.1 | (rw [← HS.out.1]; go_num), by rw [← HP2.out]; first | exact congrArg (Value.int .i64) HS.out.2 | (rw [← HS.out.2]; go_num), HB6⟩
              case measure => simp [intOf]; omega
        | false =>
          have hs := HS.out
          rw [if_neg (by decide)] at hs
          by_cases hj0 : 0 < j
          · rw [if_pos hj0] at hs
            have g1 : decide ((0 : Int) < (j : Int)) = true := by simp; omega
            have hs : (max x qw) = p2.1 ∧ (y + qh + sp) = p2.2 := by
              have h1 := congrArg Prod.fst hs; have h2 := congrArg Prod.snd hs; simp only [] at h1 h2; exact ⟨h1.symm, h2.symm⟩
            replace HS := hid hs
            clear hs
            go_upto_region 15 with (fail)
            refine region_below (by kernel_rfl) (by kernel_rfl) (Below.refl wr.heap.size wr) ?_
            repeat (go_big_quiet_step (first | (go_at_call 65; with_reducible exact (HZ.out _))))
            refine wpQuiet_nil ?_
            intro _ hw'
            obtain ⟨u, rfl⟩ := hw'
            have HU := hid (show Below w2.heap.size w2 u.val from bnext0 hB.out u.ok)
            obtain ⟨⟨_, _, v3, v4⟩, ⟨⟨n0, n1⟩, n2, n3⟩, ⟨n4, n5⟩, n6, n7⟩ := HC.out u.val (HBZ.out u)
            have HND := hid fun (W : World) (h : Below u.val.heap.size u.val W) => HC.out W (bnext0 (HBZ.out u) h)
            clear j0 j1 j2 j3 j4 hkz
            go_wp2_with (first | (go_at_call 100; refine (HSP.out _).mono ?_; rintro e w5 ⟨rfl, hb5⟩; clear v3 v4 n0 n1 n2 n3 n4 n5 n6 n7; obtain ⟨⟨_, _, v3, v4⟩, ⟨⟨n0, n1⟩, n2, n3⟩, ⟨n4, n5⟩, n6, n7⟩ := HND.out w5 hb5; have HB5 := hid hb5; clear hb5) | (go_at_call 101; refine (HAC.out _).mono ?_; rintro e w6 ⟨rfl, hb6⟩; have HB6 := hid (bnext0 HU.out (bnext0 HB5.out hb6)); clear hb6))
            all_goals
              go_roundw
              case rel => exact ⟨j + 1, by omega, by go_num, by rw [← HP2.out]; first | exact congrArg (Value.int .i64) HS.out.1 | (rw [← HS.out.1]; go_num), by rw [← HP2.out]; first | exact congrArg (Value.int .i64) HS.out.2 | (rw [← HS.out.2]; go_num), HB6⟩
              case measure => simp [intOf]; omega
          · rw [if_neg hj0] at hs
            have g1 : decide ((0 : Int) < (j : Int)) = false := by simp; omega
            have hs : (max x qw) = p2.1 ∧ (y + qh + 0) = p2.2 := by
              have h1 := congrArg Prod.fst hs; have h2 := congrArg Prod.snd hs; simp only [] at h1 h2; exact ⟨h1.symm, h2.symm⟩
            replace HS := hid hs
            clear hs
            go_upto_region 15 with (fail)
            refine region_below (by kernel_rfl) (by kernel_rfl) (Below.refl wr.heap.size wr) ?_
            repeat (go_big_quiet_step (first | (go_at_call 65; with_reducible exact (HZ.out _))))
            refine wpQuiet_nil ?_
            intro _ hw'
            obtain ⟨u, rfl⟩ := hw'
            have HU := hid (show Below w2.heap.size w2 u.val from bnext0 hB.out u.ok)
            obtain ⟨⟨_, _, v3, v4⟩, ⟨⟨n0, n1⟩, n2, n3⟩, ⟨n4, n5⟩, n6, n7⟩ := HC.out u.val (HBZ.out u)
            have HND := hid fun (W : World) (h : Below u.val.heap.size u.val W) => HC.out W (bnext0 (HBZ.out u) h)
            clear j0 j1 j2 j3 j4 hkz
            go_wp2_with (first | (go_at_call 101; refine (HAC.out _).mono ?_; rintro e w6 ⟨rfl, hb6⟩; have HB6 := hid (bnext0 HU.out (bnext0 (Below.refl _ _) hb6)); clear hb6))
            all_goals
              go_roundw
              case rel => exact ⟨j + 1, by omega, by go_num, by rw [← HP2.out]; first | exact congrArg (Value.int .i64) HS.out.1 | (rw [← HS.out.1]; go_num), by rw [← HP2.out]; first | exact congrArg (Value.int .i64) HS.out.2 | (rw [← HS.out.2]; go_num), HB6⟩
              case measure => simp [intOf]; omega
      · obtain rfl : j = m := by omega
        have g0 : decide ((j : Int) < (j : Int)) = false := by simp
        obtain ⟨_, ⟨⟨n0, n1⟩, n2, n3⟩, ⟨n4, n5⟩, n6, n7⟩ := HC.out wr (HB2.out.trans (hB.out.mono HB2.out.size))
        have HF := hid (HB1.out.trans (Below.mono (bnext0 HB2.out hB.out) HB1.out.size))
        have hI := HI.out
        generalize rszJ a sp z j = p1 at *
        obtain ⟨x, y⟩ := p1
        subst hI
        simp only [] at HX hbj
        obtain ⟨⟨t1, t2⟩, t3, t4⟩ := hbj
        have hj2 : (27000 : Int) * j ≤ 5400000 := by omega
        by_cases h5 : kk = 5
        · subst h5
          cases inn with
          | false =>
            replace HX := hid (HX.out.trans (if_pos ⟨rfl, rfl⟩))
            go_wp2_with fail
            go_ret2
            exact ⟨by rw [HX.out]; go_num, HF.out⟩
          | true =>
            replace HX := hid (HX.out.trans (if_neg (fun h => by cases h.2)))
            go_wp2_with fail
            go_ret2
            exact ⟨by rw [HX.out]; rfl, HF.out⟩
        · have e5 : (kk == 5) = false := by simp [h5]
          replace HX := hid (HX.out.trans (if_neg (fun h => h5 h.1)))
          go_wp2_with fail
          go_ret2
          exact ⟨by rw [HX.out]; rfl, HF.out⟩
/-- The document's size of a node. -/
theorem rsize_any (P : Int) (ss : List Sg) (l : List Nd) (d wd : Int) (hp : Pln P ss l) (hsl : ss.length ≤ 1000000) (hsv : ∀ s ∈ ss, s.vals.length ≤ 1000000) : ∀ (f i : Nat), i < l.length → l.length ≤ f + i → RszOk P ss l d wd f i
  | 0, i, h, h1 => by omega
  | f + 1, i, hi, hf => rsz_step P ss l d wd hp hsl hsv f i hi (by omega) fun k h1 h2 => rsize_any P ss l d wd hp hsl hsv f k h2 (by omega)
end Go.Proofs.Ytfkcpcdndleboaa
