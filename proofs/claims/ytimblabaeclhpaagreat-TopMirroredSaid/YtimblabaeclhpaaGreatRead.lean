/- WALK: code.Read of the line code. -/
import Derived.Test.YtimblabaeclhpaaGreatVisR
import Derived.Test.YtimblabaeclhpaaGreatSgn6
import Derived.Deep.Cut
namespace Go.Proofs.YtimblabaeclhpaaGreat
open Go.RowKit Go.Maps
theorem sg_code {P : Int} {ss : List Sg} (h : listE P ss = 0) : ∀ s ∈ ss, s.code.size ≤ 1000000 := by
  intro s hs
  obtain ⟨j, hj, rfl⟩ := List.getElem_of_mem hs
  have hsg := sg_at hj
  unfold listE at h
  split at h
  · omega
  · split at h
    · omega
    · have h1 := firstE_get h j hj
      unfold sgnE at h1
      split at h1
      · rename_i h2
        have h3 := h2.1
        rw [hsg] at h3
        unfold codeB at h3
        simp only [Bool.and_eq_true, decide_eq_true_eq] at h3
        omega
      · omega
/-- The code is one of the list. -/
def InL (ss : List Sg) (c : ByteArray) : Prop := ∃ i : Nat, i < ss.length ∧ (sg ss i).code = c
/-- What Read's error and its text are. -/
structure RdOk (P N : Int) (ss : List Sg) (s : ByteArray) (at_ err : Int) (l : List Nd) : Prop where
  good : err = 0 → at_ = 0 ∧ ∃ ks q, parseP s = .ok ks q ∧ FlatOf N 0 ks l ∧ chkE P ss l = 0
  none : ∀ ks q, parseP s = .ok ks q → knownL (InL ss) ks → (∀ l', FlatOf N 0 ks l' → chkE P ss l' = 0) → err = 0
/-- What Read returns. -/
def RdPost (P N : Int) (ss : List Sg) (s : ByteArray) (w : World) (e : Ending) (w' : World) : Prop := ∃ (A : Option Addr) (c : Nat) (l : List Nd) (at_ err : Int), e = .returned (.tuple #[.agg #[.slice A l.length c], .int .i64 at_, .int .i64 err]) ∧ w'.ownsRow w.heap.size 67 8 (.slice A l.length c) l.length (flatN l) ∧ Below w.heap.size w w' ∧ RdOk P N ss s at_ err l
theorem RdPost.bad {P N : Int} {ss : List Sg} {s : ByteArray} {w w' : World} {at_ err : Int} (h1 : err ≠ 0) (h2 : ∀ ks q, parseP s = .ok ks q → knownL (InL ss) ks → (∀ l', FlatOf N 0 ks l' → chkE P ss l' = 0) → False) (hb : Below w.heap.size w w') : RdPost P N ss s w (.returned (.tuple #[.agg #[.slice none 0 0], .int .i64 at_, .int .i64 err])) w' :=
  ⟨none, 0, [], at_, err, rfl, World.ownsRow_nil _ _ _ _, hb, ⟨fun h => absurd h h1, fun ks q a b c => (h2 ks q a b c).elim⟩⟩
mutual
theorem Itm.cod.mono {M M' : Nat} (h : M ≤ M') : ∀ {x : Itm}, x.cod M → x.cod M'
  | .mk _ c _ kids, hx => by rw [Itm.cod] at hx ⊢; exact ⟨Nat.le_trans hx.1 h, codL.mono h hx.2⟩
theorem codL.mono {M M' : Nat} (h : M ≤ M') : ∀ {ks : List Itm}, codL M ks → codL M' ks
  | [], _ => by rw [codL]; trivial
  | x :: ks, hx => by rw [codL] at hx ⊢; exact ⟨Itm.cod.mono h hx.1, codL.mono h hx.2⟩
end
theorem Ks.its {N : Int} {n0 : Nat} {W : World} {A : Option Addr} {m c : Nat} {ks : List Itm} (h : Ks 1 n0 [] W A m c ks) (hN : 0 < N) : m = ks.length ∧ ItS N (fun b => n0 ≤ b ∧ b < W.heap.size) W (.slice A m c) ks := by
  obtain ⟨vs, h1, h2, h3, h4, h5⟩ := h
  refine ⟨h2.symm, vs, ⟨?_, fun g hg => h3.lt g hg⟩, h5.keep (by omega) (fun b hb => ⟨hb.1, hb.2.1⟩) (fun _ _ => rfl)⟩
  rw [h1]
  exact own_base h3 (Nat.zero_le _)
set_option maxRecDepth 100000 in
set_option maxHeartbeats 8000000 in
theorem read_any (P N : Int) (ss : List Sg) (hE : listE P ss = 0) (hl : ss.length ≤ 1000000) (hv : ∀ s ∈ ss, s.vals.length ≤ 1000000 ∧ s.vals.length ≤ s.vc) (hN : 0 < N) (hN2 : (ss.length : Int) ≤ N) (s : ByteArray) (hs : s.size ≤ 300) (A : Option Addr) (c : Nat) (w : World) (rs : Sgs w w.heap.size A ss) :
    Calls Tryz.prog 7 #[.int .i64 1, .agg #[.int .i64 P, .slice A ss.length c], .string s] w (RdPost P N ss s w) := by
  obtain ⟨w1, hw1⟩ : ∃ W, W = (w.alloc (.cells #[.int .i64 P, .slice A ss.length c] 24)).alloc (.cells #[.slice none 0 0] 30) := ⟨_, rfl⟩
  have hb1 : Below w.heap.size w w1 := by rw [hw1]; exact ((Below.refl _ _).alloc (Nat.le_refl _) _).alloc (by simp) _
  have hz1 : w1.heap.size = w.heap.size + 2 := by rw [hw1]; simp
  have c0 : w1.cell? ⟨w.heap.size, 0, none⟩ = some (.int .i64 P) := by rw [hw1]; exact cell_old (cell_here rfl rfl)
  have c1 : w1.cell? ⟨w.heap.size, 1, none⟩ = some (.slice A ss.length c) := by rw [hw1]; exact cell_old (cell_here rfl rfl)
  have c3 : w1.heap[w.heap.size + 1]? = some (.cells #[.slice none 0 0] 30 (0, 0)) := by rw [hw1]; exact nwB (by simp)
  obtain ⟨B0, hB0⟩ : ∃ b, b = w.heap.size := ⟨_, rfl⟩
  obtain ⟨B1, hB1⟩ : ∃ b, b = w.heap.size + 1 := ⟨_, rfl⟩
  have HC := hid fun (W : World) (h : Below w1.heap.size w1 W) => (show W.cell? ⟨B0, 0, none⟩ = some (.int .i64 P) ∧ W.cell? ⟨B0, 1, none⟩ = some (.slice A ss.length c) from ⟨(h.cell (p := ⟨B0, 0, none⟩) (by simp; omega)).trans (by rw [hB0]; exact c0), (h.cell (p := ⟨B0, 1, none⟩) (by simp; omega)).trans (by rw [hB0]; exact c1)⟩)
  have HC3 := hid fun (W : World) (h : Below w1.heap.size w1 W) => (show W.heap[B1]? = some (.cells #[.slice none 0 0] 30 (0, 0)) from (h.block _ (by omega)).trans (by rw [hB1]; exact c3))
  have HLC := hid (listCheck_any P ss hl hv A c w1 ((rs.below hb1).more (by omega)))
  have HPA := hid fun (W : World) => parse_any s (by omega) W
  have HRE := hid fun (W : World) (h : Below w.heap.size w W) (n1 : Nat) (ks : List Itm) (A2 : Option Addr) (m c2 : Nat) h1 h2 h3 h4 h5 => res_any P N ss ks hl hN hN2 (sg_code hE) A A2 c m c2 n1 W ((rs.below h).more h.size) h1 h2 h3 h4 h5
  have HCK := hid fun (W : World) (h : Below w.heap.size w W) (l : List Nd) (A2 : Option Addr) (c2 : Nat) h1 (h2 : Nds W W.heap.size A2 l) => check_any P ss l hl hv h1 A A2 c c2 W ((rs.below h).more h.size) h2
  have HB1 := hid hb1; have HZ1 := hid hz1; have HS := hid hs; have HN := hid hN
  have HW1 := hid hw1; have HX0 := hid hB0; have HX1 := hid hB1
  have HE := hid hE
  rw [hE] at HLC
  have hs2 : ¬ 65536 < s.size := by omega
  clear hb1 hz1 c0 c1 c3 hw1 hB0 hB1 rs hv hE hs hN hN2
  go_enter Tryz.func7, Tryz.ntmps7
  go_upto_region 1 with (fail)
  rw [← HW1.out, ← HX1.out, ← HX0.out]
  clear HW1
  have p0 := (HC.out w1 (Below.refl _ _)).1; have p1 := (HC.out w1 (Below.refl _ _)).2
  go_upto_region 9 with (first | (go_at_call 12; refine (coder_any _).mono ?_; rintro e wx ⟨rfl, hx⟩; subst wx) | (go_at_call 13; refine HLC.out.mono ?_; rintro e w2 ⟨rfl, hb2⟩; have HB2 := hid hb2; clear hb2))
  clear p0 p1 HLC
  have hpa := HPA.out w2
  unfold ParP at hpa
  have hb2 : Below w.heap.size w w2 := HB1.out.trans (HB2.out.mono HB1.out.size)
  cases hd : parseP s with
  | bad q =>
    rw [hd] at hpa
    have HPP := hid hd
    have HBW := hid hb2
    clear hd hb2
    go_upto_region 11 with (first | (go_at_call 14; refine hpa.mono ?_; rintro e w3 ⟨rfl, hb3⟩; have HB3 := hid (HB2.out.trans (hb3.mono HB2.out.size)); have HW3 := hid (HBW.out.trans (hb3.mono HBW.out.size)); clear hb3))
    have q6 := cell_of_one (HC3.out _ HB3.out); have z6 := free_of_one (HC3.out _ HB3.out)
    go_wp2_with fail
    have hq := World.cell?_setCell_same _ _ (.slice none 0 0) q6
    exact bodyPost_ret (v := .tuple #[.agg #[.slice none 0 0], .int .i64 q, .int .i64 4]) (by simp [results, Tryz.results7, go_sem, hq]) rfl (RdPost.bad (by decide) (fun ks q2 h => by have := HPP.out; rw [this] at h; cases h) (HW3.out.setCell (p := ⟨B1, 0, none⟩) (by have := HX1.out; simp; omega) _))
  | ok ks q =>
    rw [hd] at hpa
    have HPP := hid hd
    have HBW := hid hb2
    have hcod := parse_cod hd
    have hfit := parse_fit hd
    have HCD := hid (codL.mono (M' := 1000000) (by have := HS.out; omega) hcod)
    have HSZ := hid (show szL ks ≤ 300 by have := HS.out; omega)
    clear hd hb2 hcod hfit
    go_upto_region 12 with (first | (go_at_call 14; refine hpa.mono ?_; rintro e w3 ⟨⟨A2, m, c2, rfl, hks⟩, hb3⟩; have HB3 := hid (HB2.out.trans (hb3.mono HB2.out.size)); have HW3 := hid (HBW.out.trans (hb3.mono HBW.out.size)); have HKS := hid hks; have HZ3 := hid hb3.size; clear hb3 hks))
    have p0 := (HC.out _ HB3.out).1; have p1 := (HC.out _ HB3.out).2
    obtain ⟨hmk, hIT⟩ := HKS.out.its HN.out
    have HRR := hid (HRE.out w3 HW3.out w2.heap.size ks A2 m c2 HZ3.out hIT hmk (by have := HSZ.out; omega) HCD.out)
    have HMK := hid hmk
    clear hmk hIT
    go_upto_region 13 with (first | (go_at_call 15; refine HRR.out.mono ?_; rintro e w4 ⟨r, rfl, hr4, hb4, hi4⟩; have HR4 := hr4; have HB4 := hid (HB3.out.trans (hb4.mono HB2.out.size)); have HW4 := hid (HW3.out.trans (hb4.mono HBW.out.size)); have HI4 := hid hi4; clear hr4 hb4 hi4 HRR p0 p1))
    have q6 := cell_of_one (HC3.out _ HB4.out); have z6 := free_of_one (HC3.out _ HB4.out)
    by_cases hr : 0 ≤ r
    · have e1 : decide (0 ≤ r) = true := decide_eq_true hr
      have HR5 := hid (show ¬ knownL (InL ss) ks from fun h => by have := HR4.out h; omega)
      clear hr
      go_wp2_with fail
      have hq := World.cell?_setCell_same _ _ (.slice none 0 0) q6
      exact bodyPost_ret (v := .tuple #[.agg #[.slice none 0 0], .int .i64 r, .int .i64 23]) (by simp [results, Tryz.results7, go_sem, hq]) rfl (RdPost.bad (by decide) (fun ks q2 h hk _ => by have := HPP.out; rw [this] at h; injection h with h _; subst h; exact HR5.out hk) (HW4.out.setCell (p := ⟨B1, 0, none⟩) (by have := HX1.out; simp; omega) _))
    · have e1 : decide (0 ≤ r) = false := decide_eq_false hr
      clear hr
      obtain ⟨us, hu1, hu2⟩ := HI4.out
      have HFL := hid (flat_any N w4.heap.size ks us [] none A2 0 0 m c2 0 w4 rfl (World.ownsRow_nil _ _ _ _) (hu1.keep (fun _ h => h.2) (fun _ _ => rfl)) HMK.out (hu2.keep (Int.le_refl _) (fun _ h => h.2) (fun _ _ => rfl)) (Nat.le_refl _) (by have := HSZ.out; omega) (Int.le_refl _) (by have := HSZ.out; omega))
      clear hu1 hu2 us
      go_upto_region 16 with (first | (go_at_call 16; refine HFL.out.mono ?_; rintro e w5 ⟨A5, c5, l, rfl, ho5, hf5, hb5⟩; have HO5 := hid ho5; have HF5 := hid hf5; have HB5 := hid (HB4.out.trans (hb5.mono HB4.out.size)); have HW5 := hid (HW4.out.trans (hb5.mono HW4.out.size)); have q5 := cell_of_one (HC3.out _ (HB4.out.trans (hb5.mono HB4.out.size))); have z5 := free_of_one (HC3.out _ (HB4.out.trans (hb5.mono HB4.out.size))); clear ho5 hf5 hb5 HFL))
      have hlen := HF5.out.len
      have ho6 := HO5.out
      rw [← hlen, Nat.zero_add, List.nil_append] at ho6
      rw [← hlen]
      obtain ⟨w6, hw6⟩ : ∃ W, W = w5.setCell ⟨B1, 0, none⟩ (.slice A5 l.length c5) := ⟨_, rfl⟩
      have HB9 := hid (show B0 ≠ B1 by have := HX0.out; have := HX1.out; omega)
      have HBL := hid (show w.heap.size ≤ B1 by have := HX1.out; omega)
      have hB4 := HB4.out.size
      have hB1 : B1 < w1.heap.size := by have := HZ1.out; have := HX1.out; omega
      have p0 : w6.cell? ⟨B0, 0, none⟩ = some (.int .i64 P) := by rw [hw6]; exact (World.cell?_setCell_other _ _ _ _ (fun e => HB9.out (by injection e with e; exact e.symm))).trans (HC.out _ HB5.out).1
      have p1 : w6.cell? ⟨B0, 1, none⟩ = some (.slice A ss.length c) := by rw [hw6]; exact (World.cell?_setCell_other _ _ _ _ (fun e => HB9.out (by injection e with e; exact e.symm))).trans (HC.out _ HB5.out).2
      have h6 : w6.heap[B1]? = some (.cells #[.slice A5 l.length c5] 30 (0, 0)) := by rw [hw6]; exact one_setCell (HC3.out _ HB5.out)
      have ho7 : w6.ownsRow w4.heap.size 67 8 (.slice A5 l.length c5) l.length (flatN l) := by
        rw [hw6]
        exact ownsRow_setCell_other ho6 (a := ⟨B1, 0, none⟩) (fun he => by have := (ho6.lt _ he).1; simp at this; omega) _
      have hb6 : Below w.heap.size w w6 := by rw [hw6]; exact HW5.out.setCell (p := ⟨B1, 0, none⟩) HBL.out _
      rw [← hw6]
      clear hw6 q5 z5 q6 z6
      have q6 := cell_of_one h6; have z6 := free_of_one h6
      have HCC := hid (HCK.out w6 hb6 l A5 c5 (by have := HSZ.out; omega) (Reads.of_own ho7))
      have H6 := hid h6; have HO7 := hid ho7; have HB6 := hid hb6; have HL6 := hid hlen
      have HSB := hid (show B1 < w4.heap.size by omega)
      have HSB6 := hid (lt_of_block h6)
      have HBW4 := hid (show w.heap.size ≤ w4.heap.size from HW4.out.size)
      clear h6 ho6 ho7 hb6 hlen hB4 hB1
      obtain ⟨E, hEE⟩ : ∃ E, E = chkE P ss l := ⟨_, rfl⟩
      rw [← hEE] at HCC
      have HEE := hid hEE
      clear hEE
      go_upto_region 17 with (first | (go_at_call 17; refine HCC.out.mono ?_; rintro e w7 ⟨rfl, hb7⟩; have H7 := hid ((hb7.block _ HSB6.out).trans H6.out); have q7 := cell_of_one ((hb7.block _ HSB6.out).trans H6.out); have z7 := free_of_one ((hb7.block _ HSB6.out).trans H6.out); have HO8 := hid (own_keep HO7.out hb7); have HB7 := hid (HB6.out.trans (hb7.mono HB6.out.size)); clear hb7 HCC p0 p1 q6 z6))
      by_cases h0 : E = 0
      · have e1 : (E != 0) = false := by simp [h0]
        have HE0 := hid (show chkE P ss l = 0 by rw [← HEE.out]; exact h0)
        clear h0
        go_wp2_with fail
        have hq := World.cell?_setCell_same _ _ (.slice A5 l.length c5) q7
        exact bodyPost_ret (v := .tuple #[.agg #[.slice A5 l.length c5], .int .i64 0, .int .i64 0]) (by simp [results, Tryz.results7, go_sem, hq]) rfl ⟨A5, c5, l, 0, 0, rfl, own_base (ownsRow_setCell_other HO8.out (a := ⟨B1, 0, none⟩) (fun he => by have := (HO8.out.lt _ he).1; have h9 := HSB.out; have h8 : (⟨B1, 0, none⟩ : Addr).block = B1 := rfl; omega) _) HBW4.out, HB7.out.setCell (p := ⟨B1, 0, none⟩) HBL.out _, ⟨fun _ => ⟨rfl, ks, q, HPP.out, HF5.out, HE0.out⟩, fun _ _ _ _ _ => rfl⟩⟩
      · have e1 : (E != 0) = true := by simp [h0]
        have HE0 := hid (show chkE P ss l ≠ 0 by rw [← HEE.out]; exact h0)
        have HE1 := hid h0
        clear h0
        go_wp2_with fail
        have hq := World.cell?_setCell_same _ _ (.slice none 0 0) q7
        exact bodyPost_ret (v := .tuple #[.agg #[.slice none 0 0], .int .i64 0, .int .i64 E]) (by simp [results, Tryz.results7, go_sem, hq]) rfl (RdPost.bad HE1.out (fun ks2 q2 h _ ha => by have := HPP.out; rw [this] at h; injection h with h _; subst h; exact HE0.out (ha l HF5.out)) (HB7.out.setCell (p := ⟨B1, 0, none⟩) HBL.out _))
end Go.Proofs.YtimblabaeclhpaaGreat

/- PLAIN LAW: the text that writes reads. -/
namespace Go.Proofs.YtimblabaeclhpaaGreat
open Go.RowKit Go.Maps
def wS : ByteArray := ⟨#[65, 49, 45, 60, 65, 49, 35, 62]⟩
def wC : ByteArray := ⟨#[65, 49]⟩
def wG : List Sg := [⟨wC, 1, 1, false, [], none, 0⟩]
def wK : List Itm := [.mk ⟨1, 0, 0, 0, false, 0, 0, 0⟩ wC 0 [], .mk ⟨5, 0, 0, 0, false, 0, 0, 0⟩ ByteArray.empty 0 [.mk ⟨1, 0, 0, 0, false, 1, 0, 0⟩ wC 4 []]]
def wL : List Nd := [⟨1, 0, 0, 0, false, 0, 0, 0⟩, ⟨5, 0, 0, 0, false, 0, 0, 0⟩, ⟨1, 1, 0, 0, false, 1, 0, 0⟩]
set_option maxRecDepth 100000
theorem w_list : listE 1 wG = 0 := by kernel_rfl
theorem w_parse : parseP wS = .ok wK 8 := by kernel_rfl
theorem w_known : knownL (InL wG) wK := by
  have h : InL wG wC := ⟨0, by decide, rfl⟩
  simp only [wK, knownL, Itm.known]
  simp [h]
theorem w_flat {l : List Nd} (h : FlatOf 1 0 wK l) : l = wL := by
  obtain ⟨h1, h2⟩ := h
  have e : l.map clrS = l := by
    rw [List.map_congr_left (g := id) (fun x hx => by
      have := h2 x hx
      obtain ⟨k, d, s, t, m, st, mn, mx⟩ := x
      simp only [] at this
      have : s = 0 := by omega
      subst this
      rfl), List.map_id]
  rw [e] at h1
  rw [h1]
  rfl
theorem w_own : firstE (ownE wG wL) wL.length = 0 := by kernel_rfl
theorem w_fam : ∀ i, i < wL.length → famRs wL i := by
  intro i hi
  have h3 : wL.length = 3 := rfl
  rw [h3] at hi
  match i, hi with
  | 0, _ =>
    have k0 : kidsOf wL ((0 : Nat) : Int) = [] := by kernel_rfl
    have k1 : kd wL 0 = 1 := by kernel_rfl
    unfold famRs famR
    rw [k0, k1]
    exact ⟨by rw [if_pos (by decide)]; rfl, fun h => absurd h (by decide), fun h => absurd h (by decide), fun j hj => by cases hj⟩
  | 1, _ =>
    have k0 : kidsOf wL ((1 : Nat) : Int) = [2] := by kernel_rfl
    have k1 : kd wL 1 = 5 := by kernel_rfl
    have k2 : dep wL 1 = 0 := by kernel_rfl
    have k3 : kd wL 2 = 1 := by kernel_rfl
    unfold famRs famR
    rw [k0, k1, k2]
    refine ⟨by rw [if_neg (by decide), if_pos rfl]; decide, fun _ => Int.le_refl _, fun h => absurd h (by decide), fun j hj => ?_⟩
    obtain rfl : j = 2 := by simpa using hj
    rw [k3]
    decide
  | 2, _ =>
    have k0 : kidsOf wL ((2 : Nat) : Int) = [] := by kernel_rfl
    have k1 : kd wL 2 = 1 := by kernel_rfl
    unfold famRs famR
    rw [k0, k1]
    exact ⟨by rw [if_pos (by decide)]; rfl, fun h => absurd h (by decide), fun h => absurd h (by decide), fun j hj => by cases hj⟩
theorem w_chk {l : List Nd} (h : FlatOf 1 0 wK l) : chkE 1 wG l = 0 := by
  rw [w_flat h]
  exact chkE_ok w_list (by decide) w_own w_fam
theorem w_sgs {w : World} {B g : Nat} (h : w.heap[g]? = some (.cells #[.string wC, .int .i64 1, .int .i64 1, .bool false, .slice none 0 0] 47 (0, 0))) (hg : g < B) : Sgs w B (some ⟨g, 0, none⟩) wG := by
  refine ⟨⟨rfl, fun _ => ⟨⟨g, 0, none⟩, rfl, hg, fun j u hj => ?_⟩⟩, fun s hs => ?_⟩
  · have e : w.cell? ⟨g, 0 + j, none⟩ = (flatS wG)[j]? := by
      simp [World.cell?, h, flatS, wG, Sg.cells]
    rw [Addr.add_lit]
    exact e.trans hj
  · have e : s = ⟨wC, 1, 1, false, [], none, 0⟩ := by simpa [wG] using hs
    subst e
    exact ⟨rfl, fun h => absurd h (by decide)⟩
set_option maxHeartbeats 4000000 in
theorem writes_any (w : World) : Calls Tryz.prog 5 #[] w fun e w' => e = .returned (.bool true) ∧ Below w.heap.size w w' := by
  obtain ⟨w2, hw2⟩ : ∃ W, W = (w.alloc (.cells #[.string wC, .int .i64 1, .int .i64 1, .bool false, .slice none 0 0] 47)).alloc (.cells #[.int .i64 1, .slice (some ⟨w.heap.size, 0, none⟩) 1 1] 24) := ⟨_, rfl⟩
  have hb2 : Below w.heap.size w w2 := by rw [hw2]; exact ((Below.refl _ _).alloc (Nat.le_refl _) _).alloc (by simp) _
  have h0 : w2.heap[w.heap.size]? = some (.cells #[.string wC, .int .i64 1, .int .i64 1, .bool false, .slice none 0 0] 47 (0, 0)) := by rw [hw2]; exact oldB (nwB rfl)
  have p0 : w2.cell? ⟨w.heap.size + 1, 0, none⟩ = some (.int .i64 1) := by rw [hw2]; exact cell_here (by simp) rfl
  have p1 : w2.cell? ⟨w.heap.size + 1, 1, none⟩ = some (.slice (some ⟨w.heap.size, 0, none⟩) 1 1) := by rw [hw2]; exact cell_here (by simp) rfl
  have hrd := read_any 1 1 wG w_list (by decide) (fun s hs => by have e : s = ⟨wC, 1, 1, false, [], none, 0⟩ := (by simpa [wG] using hs); subst e; exact ⟨by decide, by decide⟩) (by decide) (by decide) wS (by decide) (some ⟨w.heap.size, 0, none⟩) 1 w2 (w_sgs h0 (lt_of_block h0))
  have HRD := hid hrd; have HB2 := hid hb2; have HW2 := hid hw2
  clear hrd hb2 h0 hw2
  go_enter Tryz.func5, Tryz.ntmps5
  go_upto_region 2 with (fail)
  have e2 := HW2.out
  unfold wC at e2
  rw [← e2]
  clear e2 HW2
  go_upto_region 3 with (first | (go_at_call 7; refine HRD.out.mono ?_; rintro e w3 ⟨A3, c3, l3, at3, er3, rfl, ho3, hb3, hr3⟩; have her := hr3.none wK 8 w_parse w_known (fun l' h => w_chk h); subst her; have hg3 := hr3.good rfl; have hat := hg3.1; subst hat; obtain ⟨ks3, q3, hp3, hf3, hc3⟩ := hg3.2; have hl3 : l3.length = 3 := (by rw [w_parse] at hp3; injection hp3 with hp3 _; subst hp3; rw [w_flat hf3]; rfl); rw [hl3]; have HB3 := hid (HB2.out.trans (hb3.mono HB2.out.size)); clear ho3 hb3 hr3 hg3 hp3 hf3 hc3 hl3))
  go_wp2_with fail
  go_ret
  exact ⟨rfl, HB3.out.alloc HB3.out.size _⟩
end Go.Proofs.YtimblabaeclhpaaGreat

/- WALK: ostracontop.small. -/
namespace Go.Proofs.YtimblabaeclhpaaGreat
open Go.RowKit
set_option maxRecDepth 100000 in
set_option maxHeartbeats 2000000 in
theorem smallT_any (P : Int) (ss : List Sg) (A : Option Addr) (c : Nat) (w : World) (hs : ss.length ≤ 12 → Calls Tryz.prog 11 #[.agg #[.int .i64 P, .slice A ss.length c]] (w.alloc (.cells #[.int .i64 P, .slice A ss.length c] 24)) fun e w' => e = .returned (.int .i64 (listE P ss)) ∧ Below (w.alloc (.cells #[.int .i64 P, .slice A ss.length c] 24)).heap.size (w.alloc (.cells #[.int .i64 P, .slice A ss.length c] 24)) w') :
    Calls Tryz.prog 4 #[.agg #[.int .i64 P, .slice A ss.length c]] w fun e w' => e = .returned (.bool (decide (ss.length ≤ 12 ∧ listE P ss = 0))) ∧ Below w.heap.size w w' := by
  by_cases h : ss.length ≤ 12
  · have HS := hid (hs h)
    have HX := hid (show decide (ss.length ≤ 12 ∧ listE P ss = 0) = (listE P ss == 0) by by_cases e : listE P ss = 0 <;> simp [h, e])
    have e1 : decide (ss.length ≤ 12) = true := decide_eq_true h
    have e2 : (ss.length : Int) ≤ 12 := by omega
    generalize listE P ss = E at *
    clear hs h
    go_enter Tryz.func4, Tryz.ntmps4
    go_wp2_with (first | (go_at_call 11; refine HS.out.mono ?_; rintro e w2 ⟨rfl, hb2⟩; have HB2 := hid hb2; clear hb2))
    go_ret
    exact ⟨by rw [HX.out]; rfl, ((Below.refl _ _).alloc (Nat.le_refl _) _).trans (HB2.out.mono (by simp))⟩
  · have HX := hid (show decide (ss.length ≤ 12 ∧ listE P ss = 0) = false by simp [h])
    have e1 : decide ((ss.length : Int) ≤ 12) = false := decide_eq_false (by omega)
    clear hs h
    go_enter Tryz.func4, Tryz.ntmps4
    go_wp2_with fail
    go_ret
    exact ⟨by rw [HX.out]; rfl, (Below.refl _ _).alloc (Nat.le_refl _) _⟩
end Go.Proofs.YtimblabaeclhpaaGreat
