/- WALK: what first does with a line: it is restored, and the search ends. -/
import Derived.Test.YtaoddenadfmdbaaPrpW
import Derived.Test.YtaoddenadfmdbaaEtdW
namespace Go.Proofs.Ytaoddenadfmdbaa
open Go.RowKit Go.Maps
theorem Try.infoRst : (Try.prog.info? 33).map (fun i => (i.zero, i.size, i.bytes)) = some (some (.agg #[.slice none 0 0, .slice none 0 0, .slice none 0 0, .int .i64 0]), 4, 80) := by kernel_rfl
/-- What the search has in memory while it walks: nothing is found. -/
structure WkE (cs : List Cl) (par : List Int) (n B : Nat) (A2 A3 : Option Addr) (c2 c3 gq cq : Nat) (D : DataW Unit) (K : Nat) (rv : Value) (R : Nat) (T : Nat → Nat → Nat → Nat) (bo bs bm : Nat) (W : World) : Prop where
  sx : Sx cs par n B A2 A3 c2 c3 gq cq D K rv W
  rs : RsAt W rv R (posL cs).length par.length T
  bo : W.heap[bo]? = some (.cells #[.slice none 0 0] 57 (0, 0))
  bs : W.cell? ⟨bs, 0, none⟩ = some (.pointer (some ⟨B + 1, 0, none⟩))
  bm : W.cell? ⟨bm, 0, none⟩ = some (.int .i64 1)
theorem WkE.below {cs : List Cl} {par : List Int} {n B : Nat} {A2 A3 : Option Addr} {c2 c3 gq cq : Nat} {D : DataW Unit} {K : Nat} {rv : Value} {R : Nat} {T : Nat → Nat → Nat → Nat} {bo bs bm : Nat} {W W' : World} (h : WkE cs par n B A2 A3 c2 c3 gq cq D K rv R T bo bs bm W) (hb : Below W.heap.size W W') : WkE cs par n B A2 A3 c2 c3 gq cq D K rv R T bo bs bm W' :=
  ⟨h.sx.below hb, h.rs.below hb, (hb.block _ (lt_of_block h.bo)).trans h.bo, cell_keep hb h.bs, cell_keep hb h.bm⟩
/-- A restoration has been found. -/
def Fnd (cs : List Cl) (par : List Int) (n bo : Nat) (W : World) : Prop := ∃ (L : List Int) (A : Option Addr) (c : Nat) (v1 v2 : Value) (g cg b0 : Nat), (bo < g ∧ bo < b0) ∧ W.heap[bo]? = some (.cells #[.slice (some ⟨g, 0, none⟩) 1 cg] 57 (0, 0)) ∧ (W.cell? ⟨g, 0, none⟩ = some (.slice A L.length c) ∧ W.cell? ⟨g, 1, none⟩ = some v1 ∧ W.cell? ⟨g, 2, none⟩ = some v2 ∧ W.cell? ⟨g, 3, none⟩ = some (.int .i64 (ED L par : Nat))) ∧ (∃ A5 n5 c5, v1 = .slice A5 n5 c5) ∧ (∃ A6 n6 c6, v2 = .slice A6 n6 c6) ∧ W.ownsRow b0 3 1 (.slice A L.length c) L.length (ints L) ∧ Acc cs 0 0 L ∧ ∀ a ∈ L, 0 ≤ a ∧ a < n
set_option maxRecDepth 100000 in
set_option maxHeartbeats 4000000 in
theorem yield_any {cs : List Cl} {par : List Int} {n B : Nat} {A2 A3 : Option Addr} {c2 c3 gq cq : Nat} {D : DataW Unit} {K : Nat} {rv : Value} {R : Nat} {T : Nat → Nat → Nat → Nat} {bo bs bm : Nat} (hc : CsOk cs n) (hp : par.length ≤ 100) (P : List Int) (hP : P.length ≤ 100) (hA : Acc cs 0 0 P) (hPr : ∀ a ∈ P, 0 ≤ a ∧ a < n) (A4 : Option Addr) (c4 b4 : Nat) (w : World) (ro : w.ownsRow b4 3 1 (.slice A4 P.length c4) P.length (ints P)) (h : WkE cs par n B A2 A3 c2 c3 gq cq D K rv R T bo bs bm w) :
    Calls Try.prog 42 #[.slice A4 P.length c4, .pointer (some ⟨bo, 0, none⟩), .pointer (some ⟨bs, 0, none⟩), .pointer (some ⟨bm, 0, none⟩)] w fun e w' => e = .returned (.bool false) ∧ Fnd cs par n bo w' ∧ Gb bo w w' := by
  have hkb := h.sx.kb; have hkw := h.sx.kw
  have hbl : bo < w.heap.size := lt_of_block h.bo
  have hbm : bo ≠ bm := fun e => by
    have h1 := h.bm
    rw [← e] at h1
    simp [World.cell?, h.bo] at h1
  have HRS := hid fun (W : World) (hW : Below w.heap.size w W) => restored_any hc par P hp hP A2 A3 A4 c2 c3 c4 b4 W ((h.sx.cl.below (hW.mono (by omega))).more (by have := hW.size; omega)) ((h.sx.pa.below (hW.mono (by omega))).more (by have := hW.size; omega)) (own_keep ro hW)
  have HA := hid hA; have HPR := hid hPr
  obtain ⟨m, hm⟩ : ∃ m, m = P.length := ⟨_, rfl⟩
  obtain ⟨k, hk⟩ : ∃ k, k = cs.length := ⟨_, rfl⟩
  obtain ⟨q, hq⟩ : ∃ q, q = par.length := ⟨_, rfl⟩
  obtain ⟨d, hd⟩ : ∃ d, d = ED P par := ⟨_, rfl⟩
  rw [← hm, ← hk, ← hq, ← hd] at HRS
  have HWF := hid fun (W : World) (hW : Below w.heap.size w W) => (show (W.cell? ⟨bo, 0, none⟩ = some (.slice none 0 0) ∧ W.cell? ⟨bs, 0, none⟩ = some (.pointer (some ⟨B + 1, 0, none⟩)) ∧ W.cell? ⟨bm, 0, none⟩ = some (.int .i64 1)) ∧ W.cell? ⟨B + 1, 1, none⟩ = some (.slice A2 k c2) ∧ W.cell? ⟨B + 1, 2, none⟩ = some (.slice A3 q c3) ∧ W.frozen? ⟨bo, 0, none⟩ = false from by
    have h1 := h.below hW
    rw [hk, hq]
    exact ⟨⟨by simp [World.cell?, h1.bo], h1.bs, h1.bm⟩, h1.sx.s.cells.c1, h1.sx.s.cells.c2, by simp [World.frozen?, h1.bo]⟩)
  have HBO := hid h.bo
  have HM := hid hm; have HD := hid hd; have HBM := hid hbm; have HBL := hid hbl
  rw [← hm]
  clear hm hk hq hd hA hPr ro h hkb hkw hbm hbl
  go_enter Try.func42, Try.ntmps42
  go_upto_region 1 with (fail)
  refine region_call [0, 1, 2, 3, 4, 5, 6, 7, 8, 9] [10, 11] [12, 13] (fun W => Below w.heap.size w W) (by kernel_rfl) (by kernel_rfl) (fun d _ _ _ _ h => by cases d <;> exact h) (Below.refl _ _).drew ?_
  apply Exists.intro
  simp only [List.map_cons, List.map_nil, List.getD_cons_zero, List.getD_cons_succ]
  refine ⟨⟨.slice none 0 0, Or.inl ⟨by rfl, fun W hW => by have p := (HWF.out W hW).1.1; go_simp⟩, .pointer (some ⟨B + 1, 0, none⟩), Or.inl ⟨by rfl, fun W hW => by have p := (HWF.out W hW).1.2.1; go_simp⟩, _, Or.inl ⟨by rfl, fun W hW => by go_simp; rfl⟩, _, Or.inl ⟨by rfl, fun W hW => by go_simp; rfl⟩, .slice A2 k c2, Or.inl ⟨by rfl, fun W hW => by have p := (HWF.out W hW).2.1; go_simp⟩, .pointer (some ⟨B + 1, 0, none⟩), Or.inl ⟨by rfl, fun W hW => by have p := (HWF.out W hW).1.2.1; go_simp⟩, _, Or.inl ⟨by rfl, fun W hW => by go_simp; rfl⟩, _, Or.inl ⟨by rfl, fun W hW => by go_simp; rfl⟩, .slice A3 q c3, Or.inl ⟨by rfl, fun W hW => by have p := (HWF.out W hW).2.2.1; go_simp⟩, _, Or.inl ⟨by rfl, fun W hW => by go_simp; rfl⟩, rfl⟩, ?_⟩
  simp only [Act.put, List.setIfInBounds_toArray, List.set_cons_zero, List.set_cons_succ]
  refine wpMid_step rfl (fun K9 hK => ?_)
  go_simp
  go_wp2_with (first | (go_at_call 43; refine (HRS.out _ (Below.refl _ _).drew).mono ?_; rintro e w2 ⟨⟨A, c, A5, n5, c5, A6, n6, c6, rfl, ho2⟩, hb2⟩; have HO2 := hid ho2; have HB2 := hid ((Below.refl w.heap.size w).drew.trans hb2); clear ho2 hb2))
  refine hK.out _ _ HB2.out ?_
  clear hK K9
  refine wpMid_step rfl (fun K9 hK => ?_)
  go_simp
  have HAL := hid (show Below w2.heap.size w2 (w2.alloc (.cells #[.slice A m c, .slice A5 n5 c5, .slice A6 n6 c6, .int .i64 (d : Int)] 33)) from (Below.refl _ _).alloc (Nat.le_refl _) _)
  have HB3 := hid (HB2.out.trans (HAL.out.mono HB2.out.size))
  refine hK.out _ _ HB3.out ?_
  clear hK K9
  simp only [wpMid]
  obtain ⟨w3, hw3⟩ : ∃ W, W = w2.alloc (.cells #[.slice A m c, .slice A5 n5 c5, .slice A6 n6 c6, .int .i64 (d : Int)] 33) := ⟨_, rfl⟩
  have hnw := cell_news w2 [.slice A m c, .slice A5 n5 c5, .slice A6 n6 c6, .int .i64 (d : Int)] 33
  rw [← hw3] at HAL HB3 ⊢
  have hnw' : ∀ j u, [Value.slice A m c, .slice A5 n5 c5, .slice A6 n6 c6, .int .i64 (d : Int)][j]? = some u → w3.cell? ((⟨w2.heap.size, 0, none⟩ : Addr).add j) = some u := by rw [hw3]; exact hnw
  clear hw3 hnw
  have hz3 : w.heap.size ≤ w3.heap.size := HB3.out.size
  go_upto_region 2 with (first
    | (at_builtin; go_loud (refine app_elem rfl (.tmp 6) (.tmp 17) Try.underlying57 Try.infoRst rfl (by decide) (by decide) rfl w.heap.size _ 0 [] rfl (World.ownsRow_nil _ _ _ _) ⟨w2.heap.size, 0, none⟩ [.slice A m c, .slice A5 n5 c5, .slice A6 n6 c6, .int .i64 (d : Int)] rfl rfl hnw' (by simp [Value.oneCell']) (by omega) hz3 ?_); intro v5 w5 ho5 hg5; obtain ⟨g, cg, rfl, hg1, hg2⟩ := ho5.form (by omega); have HO5 := hid ho5; have HB5 := hid (show Below w3.heap.size w3 w5 from ⟨hg5.os, hg5.tape, hg5.output, hg5.size, fun j hj => hg5.block j hj (by intro e; cases e)⟩); have y5 := (HWF.out w5 (HB3.out.trans (HB5.out.mono hz3))).1.1; have z5 := (HWF.out w5 (HB3.out.trans (HB5.out.mono hz3))).2.2.2; clear ho5 hg5))
  obtain ⟨w6, hw6⟩ : ∃ W, W = w5.setCell ⟨bo, 0, none⟩ (.slice (some ⟨g, 0, none⟩) 1 cg) := ⟨_, rfl⟩
  have hc5 := HO5.out.cells (g := g) rfl
  simp only [Addr.add_lit, Nat.zero_add, List.nil_append] at hc5
  have hgb : bo ≠ g := by have := HBL.out; omega
  have HGB := hid (show bo < g by have := HBL.out; omega)
  have h60 : w6.cell? ⟨g, 0, none⟩ = some (.slice A m c) := by rw [hw6]; exact cell_set_far (hc5 0 _ rfl) (.inl hgb)
  have h61 : w6.cell? ⟨g, 1, none⟩ = some (.slice A5 n5 c5) := by rw [hw6]; exact cell_set_far (hc5 1 _ rfl) (.inl hgb)
  have h62 : w6.cell? ⟨g, 2, none⟩ = some (.slice A6 n6 c6) := by rw [hw6]; exact cell_set_far (hc5 2 _ rfl) (.inl hgb)
  have h63 : w6.cell? ⟨g, 3, none⟩ = some (.int .i64 (d : Int)) := by rw [hw6]; exact cell_set_far (hc5 3 _ rfl) (.inl hgb)
  have hbw5 : Below w.heap.size w w5 := HB3.out.trans (HB5.out.mono hz3)
  have h6m : w6.cell? ⟨bm, 0, none⟩ = some (.int .i64 1) := by rw [hw6]; exact cell_set_far (HWF.out w5 hbw5).1.2.2 (.inl HBM.out)
  have hbo5 := (hbw5.block bo HBL.out).trans HBO.out
  have h6o : w6.heap[bo]? = some (.cells #[.slice (some ⟨g, 0, none⟩) 1 cg] 57 (0, 0)) := by
    rw [hw6]
    simp [World.setCell, hbo5, Array.getElem?_modify]
  have h6c : w6.cell? ⟨bo, 0, none⟩ = some (.slice (some ⟨g, 0, none⟩) 1 cg) := by simp [World.cell?, h6o]
  have hO6 : w6.ownsRow w.heap.size 3 1 (.slice A m c) m (ints P) := by
    rw [hw6]
    have h1 := own_keep (own_keep HO2.out HAL.out) HB5.out
    exact ownsRow_setCell_other h1 (a := ⟨bo, 0, none⟩) (fun he => by have h2 := (h1.lt _ he).1; have := HBL.out; simp only [] at h2; simp at h2; omega) _
  have hG6 : Gb bo w w6 := by
    rw [hw6]
    refine (Gb.of hbw5).trans ⟨rfl, rfl, rfl, by simp [World.setCell], fun j hj hn => ?_⟩
    have hne : bo ≠ j := fun e => hn (by rw [e])
    simp [World.setCell, Array.getElem?_modify, hne]
  rw [← hw6]
  have HO6 := hid hO6; have HG6 := hid hG6; have H6 := hid (And.intro h60 (And.intro h61 (And.intro h62 h63))); have HH := hid h6o
  clear h6o
  clear hw6 hO6 hG6 h60 h61 h62 h63 hc5 y5 z5 hbo5 hbw5
  go_wp2_with fail
  go_ret
  rw [HM.out] at HO6 H6
  rw [HD.out] at H6
  exact ⟨rfl, ⟨P, A, c, _, _, g, cg, w.heap.size, ⟨HGB.out, HBL.out⟩, HH.out, H6.out, ⟨_, _, _, rfl⟩, ⟨_, _, _, rfl⟩, HO6.out, HA.out, HPR.out⟩, HG6.out⟩
end Go.Proofs.Ytaoddenadfmdbaa

/- WALK: walk. -/
namespace Go.Proofs.Ytaoddenadfmdbaa
open Go.RowKit Go.Maps
/-- What walk gives, if so many more signs are left. -/
def WkP (cs : List Cl) (par : List Int) (n bo : Nat) (S : List Nat) (P : List Int) (changes left : Nat) (w : World) (e : Ending) (w' : World) : Prop :=
  (e = .returned (.bool true) ∧ Below w.heap.size w w' ∧ ∀ U : List Int, U.length = left → (∀ a ∈ U, 0 ≤ a ∧ a < n) → lang cs S U → FE par (P ++ U) ≠ changes) ∨ (e = .returned (.bool false) ∧ Fnd cs par n bo w' ∧ Gb bo w w')
def WkC (cs : List Cl) (par : List Int) (n B : Nat) (A2 A3 : Option Addr) (c2 c3 gq cq : Nat) (D : DataW Unit) (K : Nat) (rv : Value) (R : Nat) (T : Nat → Nat → Nat → Nat) (bo bs bm changes left : Nat) : Prop := ∀ (S : List Nat) (P : List Int) (A Ar : Option Addr) (c cr : Nat) (A4 : Option Addr) (c4 b4 : Nat) (w : World), St cs S → (∀ U, lang cs S U → Acc cs 0 0 (P ++ U)) → (∀ a ∈ P, 0 ≤ a ∧ a < n) → P.length + left ≤ 100 → Rd w w.heap.size A (nzL S) → Rd w w.heap.size Ar (nzL (rowOf par P)) → w.ownsRow b4 3 1 (.slice A4 P.length c4) P.length (ints P) → WkE cs par n B A2 A3 c2 c3 gq cq D K rv R T bo bs bm w →
  Calls Try.prog 41 #[.pointer (some ⟨B + 1, 0, none⟩), .slice A S.length c, .slice Ar (par.length + 1) cr, .slice A4 P.length c4, .int .i64 (changes : Int), .int .i64 (left : Int), .func (.func 42) #[] #[.pointer (some ⟨bo, 0, none⟩), .pointer (some ⟨bs, 0, none⟩), .pointer (some ⟨bm, 0, none⟩)]] w (WkP cs par n bo S P changes left w)
set_option maxRecDepth 100000 in
set_option maxHeartbeats 8000000 in
theorem walk_step {cs : List Cl} {par : List Int} {n B : Nat} {A2 A3 : Option Addr} {c2 c3 gq cq : Nat} {D : DataW Unit} {K : Nat} {rv : Value} {R : Nat} {T : Nat → Nat → Nat → Nat} {bo bs bm changes left : Nat} (hc : CsOk cs n) (hn : n ≤ 1000000) (hp : par.length ≤ 100) (_hch : changes ≤ 1000000) (hl : left < R) (hTk : TOk cs par (R - 1) T) (hTb : ∀ r x j, T r x j ≤ 1048576) (ih : ∀ l', left = l' + 1 → WkC cs par n B A2 A3 c2 c3 gq cq D K rv R T bo bs bm changes l') : WkC cs par n B A2 A3 c2 c3 gq cq D K rv R T bo bs bm changes left := by
  intro S P A Ar c cr A4 c4 b4 w hS hLg hPr hPl rS rR ro h
  have hrl := rowOf_len par P
  have hrb := rowOf_bd par P
  have hsl := hS.len; have hnp := hc.np
  have HBD := hid (bound_any (by omega) S hS.ok (by omega) (rowOf par P) hrl (fun j hj => by have := hrb j hj; omega) A Ar c cr R left T hTb hl w rS rR h.sx h.rs)
  have HLB := hid fun (v : Nat) (hv : bndOk cs par S (rowOf par P) (T left) v) (U : List Int) (hU : U.length = left) (hlU : lang cs S U) => bound_low hTk hS.ok (P := P) hlU (by omega) (by rw [hU]; exact hv)
  have HLA := hid (last_any (cs := cs) (by omega) w h.sx)
  have HCO := hid (wcontains_any (nzL S) (num cs cs.length 0 : Nat) A c (by rw [nzL_len]; omega) w w.heap.size rS)
  have pc0 := h.sx.s.cells.c0
  obtain ⟨m, hm⟩ : ∃ m, m = par.length := ⟨_, rfl⟩
  obtain ⟨sl, hse⟩ : ∃ k, k = S.length := ⟨_, rfl⟩
  obtain ⟨pl, hpe⟩ : ∃ k, k = P.length := ⟨_, rfl⟩
  obtain ⟨lst, hls⟩ : ∃ k, k = num cs cs.length 0 := ⟨_, rfl⟩
  have hnz := nzL_len S
  rw [hnz] at HCO
  have HFN := hid (fin_lang hS.ok hS.cl)
  have hbq : (nzL S).contains ((lst : Nat) : Int) = decide (lst ∈ S) := by
    unfold nzL
    rw [Bool.eq_iff_iff, List.contains_iff_mem, List.mem_map, decide_eq_true_eq]
    constructor
    · rintro ⟨a, ha, e⟩
      rw [← Int.ofNat_inj.1 e]
      exact ha
    · intro h
      exact ⟨lst, h, rfl⟩
  rw [← hls] at HLA HCO HFN
  rw [hbq] at HCO
  obtain ⟨bq, hbqe⟩ : ∃ b, b = decide (lst ∈ S) := ⟨_, rfl⟩
  rw [← hbqe, ← hse] at HCO
  rw [← hse, ← hm] at HBD
  rw [← hse, ← hm, ← hpe]
  have HROW := hid (show ∃ br orr, Ar = some ⟨br, orr, none⟩ ∧ w.cell? ⟨br, orr + m, none⟩ = some (.int .i64 (FE par P : Nat)) from by
    obtain ⟨br, orr, e, _, hc⟩ := rR.at (by rw [nzL_len, hrl]; omega)
    refine ⟨br, orr, e, ?_⟩
    rw [hm]
    have := hc par.length (by rw [nzL_len, hrl]; omega)
    rw [nzL_getD] at this
    exact this)
  have HS := hid hS; have HLG := hid hLg; have HPR := hid hPr; have HRS := hid rS; have HRR := hid rR; have HRO := hid ro; have HE := hid h; have HI := hid ih; have HC := hid hc
  have hm100 : m ≤ 100 := by rw [hm]; exact hp
  have HM := hid hm; have HSL := hid hse; have HPE := hid hpe; have HBQ := hid hbqe
  rw [← hpe] at hPl
  rw [← hse] at hsl
  clear hm hse hpe hls hbqe hbq hnz hS hLg hPr rS rR ro h ih hc hTk hTb hrl hrb
  go_enter Try.func41, Try.ntmps41
  go_upto_region 1 with (fail)
  go_upto_if 23 with (first | (go_at_call 58; refine HBD.out.mono ?_; rintro e wz ⟨⟨v, rfl, hv⟩, hwz⟩; subst wz; have HV := hid hv; clear hv))
  by_cases hvc : changes < v
  · rw [show decide (changes < v) = true from decide_eq_true hvc]
    have HVC := hid hvc
    clear hvc
    go_wp2_with fail
    go_ret
    refine .inl ⟨rfl, Below.refl _ _, fun U hU _ hl e => ?_⟩
    have h1 := HLB.out v HV.out U hU hl
    have h2 := HVC.out
    omega
  · rw [show decide (changes < v) = false from decide_eq_false hvc]
    clear hvc HLB HV
    by_cases h0 : left = 0
    · have HL0 := hid h0
      subst h0
      have e0 : (((0 : Nat) : Int) == 0) = true := by decide
      cases bq with
      | false =>
        go_wp2_with (first
          | (go_at_call 52; refine HLA.out.mono ?_; rintro e wz ⟨rfl, hwz⟩; subst wz)
          | (go_at_call 56; refine HCO.out.mono ?_; rintro e w2 ⟨rfl, q2, hw2⟩; have HW2 := hid (show Below w.heap.size w w2 by rw [hw2]; exact below_drewN (Below.refl _ _) _); clear hw2))
        go_ret
        refine .inl ⟨rfl, HW2.out, fun U hU _ hl e => ?_⟩
        have h1 : U = [] := List.eq_nil_of_length_eq_zero hU
        subst h1
        have h2 := HFN.out.1 hl
        have h3 := HBQ.out
        simp [h2] at h3
      | true =>
        obtain ⟨br, orr, rfl, p1⟩ := HROW.out
        obtain ⟨fe, hfe⟩ : ∃ k, k = FE par P := ⟨_, rfl⟩
        rw [← hfe] at p1
        have HFE := hid hfe
        have HP2 := hid fun (W : World) (hW : Below w.heap.size w W) => cell_keep hW p1
        clear hfe p1
        have q1 : (m : Int) < (m : Int) + 1 := by omega
        by_cases hne : fe = changes
        · have e2 : ((fe : Int) != (changes : Int)) = false := by simp [hne]
          have HYL := hid fun (W : World) (hW : Below w.heap.size w W) (hA : Acc cs 0 0 P) => yield_any (bs := bs) (bm := bm) HC.out hp P (by rw [← HPE.out]; omega) hA HPR.out A4 c4 b4 W (own_keep HRO.out hW) (HE.out.below hW)
          rw [← HPE.out] at HYL
          have HAC := hid (show Acc cs 0 0 P from by
            have h3 := HBQ.out
            have h4 : lst ∈ S := by simpa using h3.symm
            have h5 := HLG.out [] (HFN.out.2 h4)
            rwa [List.append_nil] at h5)
          clear hne
          go_wp2_with (first
              | (go_at_call 52; refine HLA.out.mono ?_; rintro e wz ⟨rfl, hwz⟩; subst wz)
              | (go_at_call 56; refine HCO.out.mono ?_; rintro e w2 ⟨rfl, q2, hw2⟩; have HW2 := hid (show Below w.heap.size w w2 by rw [hw2]; exact below_drewN (Below.refl _ _) _); have p2 := HP2.out _ HW2.out; clear hw2)
              | (go_at_call 42; refine (HYL.out _ HW2.out HAC.out).mono ?_; rintro e w3 ⟨rfl, hf3, hg3⟩; have HF3 := hid hf3; have HG3 := hid hg3; clear hf3 hg3))
          go_ret
          exact .inr ⟨rfl, HF3.out, (Gb.of HW2.out).trans HG3.out⟩
        · have e2 : ((fe : Int) != (changes : Int)) = true := by simp; omega
          have HNE := hid hne
          clear hne
          go_wp2_with (first
              | (go_at_call 52; refine HLA.out.mono ?_; rintro e wz ⟨rfl, hwz⟩; subst wz)
              | (go_at_call 56; refine HCO.out.mono ?_; rintro e w2 ⟨rfl, q2, hw2⟩; have HW2 := hid (show Below w.heap.size w w2 by rw [hw2]; exact below_drewN (Below.refl _ _) _); have p2 := HP2.out _ HW2.out; clear hw2)
              | (go_at_call 42; refine (HYL.out _ HW2.out HAC.out).mono ?_; rintro e w3 ⟨rfl, hf3, hg3⟩; have HF3 := hid hf3; have HG3 := hid hg3; clear hf3 hg3))
          go_ret
          refine .inl ⟨rfl, HW2.out, fun U hU _ hl e => ?_⟩
          have h1 : U = [] := List.eq_nil_of_length_eq_zero hU
          subst h1
          rw [List.append_nil, ← HFE.out] at e
          exact HNE.out e
    · have e0 : ((left : Int) == 0) = false := by simp; omega
      obtain ⟨l', hl'⟩ : ∃ k, left = k + 1 := ⟨left - 1, by omega⟩
      have HL := hid hl'
      have q9 : (left : Int) - 1 = (l' : Int) := by omega
      have hl100 : l' ≤ 100 := by omega
      clear HLA HCO HFN HROW h0 hl' hl
      have HSZ := hid (Nat.le_refl w.heap.size)
      go_upto_region 6 with (fail)
      go_loopw [50] (fun iv wr => ∃ i : Nat, i ≤ n ∧ iv = .int .i64 (i : Int) ∧ Hid (∀ (a : Int) (U : List Int), 0 ≤ a → a < i → U.length = l' → (∀ b ∈ U, 0 ≤ b ∧ b < n) → lang cs S (a :: U) → FE par (P ++ a :: U) ≠ changes) ∧ Hid (Below w.heap.size w wr)) (fun iv _ => n - (intOf iv).toNat)
      case atStart => exact ⟨0, by omega, rfl, hid fun a U h1 h2 => by omega, hid (Below.refl _ _)⟩
      case round =>
        obtain ⟨i, hi, rfl, hN, hB⟩ := hrel
        by_cases hin : i < n
        · have q0 : (i : Int) < (n : Int) := by omega
          have hE := HE.out.below hB.out
          have rS := (HRS.out.below hB.out).more hB.out.size
          have HA := hid (after_any HC.out S HS.out (i : Int) A c wr rS hE.sx)
          rw [← HSL.out] at HA
          have HEW := hid hE
          clear rS hE
          go_upto_region 9 with (first
            | (go_at_call 57; refine HA.out.mono ?_; rintro e w5 ⟨(⟨hno, rfl⟩ | ⟨S', g', c', rfl, hs5, hl5, ho5⟩), hb5⟩))
          · have HB5 := hid (hB.out.trans (hb5.mono hB.out.size))
            have HNO := hid hno
            have heq := fun w : World => run_eql_slice_nil (P := Try.prog) w 26 3 none 0 0 Try.underlying26
            clear hno hb5
            go_wp2_with fail
            go_roundw
            case rel =>
              refine ⟨i + 1, by omega, by go_num, hid fun a U h1 h2 h3 h4 h5 => ?_, HB5⟩
              by_cases e : a = (i : Int)
              · subst e; exact absurd h5 (HNO.out U)
              · exact hN.out a U h1 (by omega) h3 h4 h5
            case measure => simp [intOf]; omega
          · have hB5 := hB.out.trans (hb5.mono hB.out.size)
            have HB5 := hid hB5
            have hE5 := HE.out.below hB5
            have HEX := hid (extend_any (by omega) (rowOf par P) (rowOf_len par P) (fun j hj => by have := rowOf_bd par P j hj; have := HPE.out; omega) (i : Int) Ar cr w5 ((HRR.out.below hB5).more hB5.size) hE5.sx)
            rw [← rowOf_snoc, ← HM.out] at HEX
            have HCLN := hid fun (W : World) (hW : Below w.heap.size w W) => wclone_any P (.slice A4 P.length c4) b4 (by have := HPE.out; omega) W (own_keep HRO.out hW)
            rw [← HPE.out] at HCLN
            have HIW := hid fun (A6 : Option Addr) (c6 : Nat) (A8 : Option Addr) (c8 b8 : Nat) (W : World) (h1 : Below w5.heap.size w5 W) (h2 : Rd W W.heap.size A6 (nzL (rowOf par (P ++ [(i : Int)])))) (h3 : W.ownsRow b8 3 1 (.slice A8 (pl + 1) c8) (pl + 1) (ints (P ++ [(i : Int)]))) => (show Calls Try.prog 41 #[.pointer (some ⟨B + 1, 0, none⟩), .slice (some ⟨g', 0, none⟩) S'.length c', .slice A6 (m + 1) c6, .slice A8 (pl + 1) c8, .int .i64 (changes : Int), .int .i64 (l' : Int), .func (.func 42) #[] #[.pointer (some ⟨bo, 0, none⟩), .pointer (some ⟨bs, 0, none⟩), .pointer (some ⟨bm, 0, none⟩)]] W (WkP cs par n bo S' (P ++ [(i : Int)]) changes l' W) from by
              have hpl1 : (P ++ [(i : Int)]).length = pl + 1 := by rw [List.length_append, ← HPE.out]; rfl
              have h4 := HI.out l' HL.out S' (P ++ [(i : Int)]) (some ⟨g', 0, none⟩) A6 c' c6 A8 c8 b8 W hs5 (fun U hU => by
                have h5 := HLG.out _ ((hl5 U).1 hU)
                rw [List.append_assoc]
                exact h5) (fun a ha => by
                  rcases List.mem_append.1 ha with h | h
                  · exact HPR.out a h
                  · have : a = (i : Int) := by simpa using h
                    omega) (by rw [hpl1]; have := HL.out; omega) (own_rd (own_keep ho5 h1) (nzL_len S').symm) h2 (by rw [hpl1]; exact h3) (hE5.below h1)
              rw [hpl1, ← HM.out] at h4
              exact h4)
            have HNX := hid fun (U : List Int) (hU : lang cs S ((i : Int) :: U)) => (hl5 U).2 hU
            have heq := fun w : World => run_eql_slice_nil (P := Try.prog) w 26 3 (some ⟨g', 0, none⟩) S'.length c' Try.underlying26
            have hpl10 : pl ≤ 10000000000 := by omega
            clear hs5 hl5 ho5 hb5 hB5 hE5
            go_wp2_with (first
              | (go_at_call 59; refine HEX.out.mono ?_; rintro e w6 ⟨⟨A6, c6, rfl, ho6⟩, hb6⟩; have HO6 := hid ho6; have HB6 := hid hb6; clear ho6 hb6)
              | (go_at_call 60; refine (HCLN.out w6 (HB5.out.trans (HB6.out.mono HB5.out.size))).mono ?_; rintro e w7 ⟨v7, rfl, ho7, hb7⟩; obtain ⟨A7, c7, rfl⟩ := own_slice ho7; have HO7 := hid ho7; have HB7 := hid hb7; have HA7 := hid (show Below w7.heap.size w7 (w7.alloc (.cells #[.int .i64 (i : Int)] 3)) from (Below.refl _ _).alloc (Nat.le_refl _) _); clear ho7 hb7)
              | (at_builtin; go_loud (refine app_elem rfl (.tmp 66) (.tmp 68) Try.underlying26 Try.infoInt rfl (by decide) (by decide) rfl w6.heap.size _ pl (ints P) rfl (HO7.out.alloc _) ⟨w7.heap.size, 0, none⟩ [.int .i64 (i : Int)] rfl rfl (cell_news w7 [.int .i64 (i : Int)] _) (by simp [Value.oneCell']) hpl10 (by have := HB7.out.size; simp; omega) ?_); intro v8 w8 ho8 hg8; obtain ⟨A8, c8, rfl⟩ := own_slice ho8; have HO8 := hid ho8; have HB8 := hid (show Below w6.heap.size w6 w8 from (HB7.out.trans (HA7.out.mono HB7.out.size)).grown hg8 (by have := HB7.out.size; simp; omega) (fun j hj => (HO7.out.lt j hj).1)); clear ho8 hg8)
              | (go_at_call 41; refine (HIW.out A6 c6 A8 c8 w6.heap.size w8 (HB6.out.trans (HB8.out.mono HB6.out.size)) (own_rd (own_keep HO6.out HB8.out) (by rw [nzL_len, rowOf_len, ← HM.out])) (by rw [ints_append]; exact HO8.out)).mono ?_; rintro e w9 (⟨rfl, hb9, hn9⟩ | ⟨rfl, hf9, hg9⟩)))
            · have HB9 := hid (HB5.out.trans (((HB6.out.trans (HB8.out.mono HB6.out.size)).trans (hb9.mono (HB6.out.trans (HB8.out.mono HB6.out.size)).size)).mono HB5.out.size))
              have HN9 := hid hn9
              clear hb9 hn9
              go_roundw
              case rel =>
                refine ⟨i + 1, by omega, by go_num, hid fun a U h1 h2 h3 h4 h5 => ?_, HB9⟩
                by_cases e : a = (i : Int)
                · subst e
                  have h6 := HN9.out U h3 h4 (HNX.out U h5)
                  rw [List.append_assoc] at h6
                  exact h6
                · exact hN.out a U h1 (by omega) h3 h4 h5
              case measure => simp [intOf]; omega
            · go_ret
              exact .inr ⟨rfl, hf9, (Gb.of (HB5.out.trans ((HB6.out.trans (HB8.out.mono HB6.out.size)).mono HB5.out.size))).trans hg9⟩
        · obtain rfl : i = n := by omega
          have q0 : decide ((i : Int) < (i : Int)) = false := by simp
          go_wp2_with fail
          go_ret
          refine .inl ⟨rfl, hB.out, fun U hU hr hl => ?_⟩
          cases U with
          | nil => have := HL.out; simp at hU; omega
          | cons a U => exact hN.out a U (hr a (by simp)).1 (hr a (by simp)).2 (by have := HL.out; simp at hU; omega) (fun b hb => hr b (by simp [hb])) hl
theorem walk_any {cs : List Cl} {par : List Int} {n B : Nat} {A2 A3 : Option Addr} {c2 c3 gq cq : Nat} {D : DataW Unit} {K : Nat} {rv : Value} {R : Nat} {T : Nat → Nat → Nat → Nat} {bo bs bm changes : Nat} (hc : CsOk cs n) (hn : n ≤ 1000000) (hp : par.length ≤ 100) (hch : changes ≤ 1000000) (hTk : TOk cs par (R - 1) T) (hTb : ∀ r x j, T r x j ≤ 1048576) : ∀ left, left < R → WkC cs par n B A2 A3 c2 c3 gq cq D K rv R T bo bs bm changes left
  | 0, hl => walk_step hc hn hp hch hl hTk hTb fun l' h => by omega
  | left + 1, hl => walk_step hc hn hp hch hl hTk hTb fun l' h => by
    obtain rfl : left = l' := by omega
    exact walk_any hc hn hp hch hTk hTb left (by omega)
end Go.Proofs.Ytaoddenadfmdbaa
