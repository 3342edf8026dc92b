/- WALK: the law GridStands (printed by gen_l_stands.py). -/
import Derived.Test.YtfkcpcdndleboaaArgsD
import Derived.Test.YtfkcpcdndleboaaLayE
import Derived.Test.YtfkcpcdndleboaaPlainR
import Derived.Test.YtfkcpcdndleboaaLateA
import Derived.Test.YtfkcpcdndleboaaWithinW
import Derived.Test.YtfkcpcdndleboaaStdF
import Derived.Test.YtfkcpcdndleboaaOwn2
namespace Go.Proofs.Ytfkcpcdndleboaa
open Go.RowKit
theorem lay_outS {P : Int} {ss : List Sg} {l : List Nd} {d wd : Int} {w : World} {e : Ending} {w' : World} (h : LayPost P ss l d wd w e w') : ∃ A' c', e = .returned (.tuple #[.slice A' (layR P ss l d wd).length c', .int .i64 (begE P ss l d wd)]) ∧ Bxr w' w'.heap.size A' (layR P ss l d wd) ∧ Below w.heap.size w w' := by
  obtain ⟨v, h1, h2, h3⟩ := h
  obtain ⟨A', c', rfl⟩ := own_slice h2
  exact ⟨A', c', h1, Reads.of_own h2, h3⟩
theorem std_ok {P : Int} {ss : List Sg} {l : List Nd} {d wd : Int} (h1 : chkE P ss l = 0) (h2 : pageE d wd = 0) : begE P ss l d wd = 0 ∧ StF (plnL P ss l) (layR P ss l d wd) d ∧ 1 ≤ d ∧ d ≤ 4 := by
  have hb : begE P ss l d wd = 0 := by unfold begE; rw [if_pos h1]; exact h2
  have hp : Pln P ss (plR l l.length) := pln_of h1
  have hpg := page_ok h2
  refine ⟨hb, ?_, hpg.1⟩
  rw [plnL_ok h1]
  unfold layR
  rw [if_pos hb]
  exact stand_f hp hpg.1 (by omega) hpg.2.2
theorem quiet_load_want {P : Program} {ops : Array Oper} {C : World → Prop} {Q : Act → Prop} {rest : List Oper} {o : Oper} {a : Act} (ty : TypeId) (x : Operand) (ho : o.op = .load ty x) (hgd : Region.wanted o (yielded ops a.tmps) = true) (b of : Nat) (cs : List Value) (d : TypeDesc) (hx : a.eval x = .pointer (some ⟨b, of, none⟩)) (hr : ∀ w, C w → w.rangeAt b of cs)
    (hu : P.underlying ty = some d) (hd : d.isRow = true) (hi : (P.info? ty).map (·.size) = some cs.length) (h : wpQuiet P ops C Q rest (a.put o.dst (.agg cs.toArray))) : wpQuiet P ops C Q (o :: rest) a := by
  unfold wpQuiet
  rw [if_pos hgd]
  refine ⟨.agg cs.toArray, fun w hw => ?_, h⟩
  unfold Oper.quietAt execOp
  simp only [ho, hx, Instr.loadAt, Instr.sureAddr, Sem.run_bind, Sem.run_pure, Result.andThen_ok, run_loadVar_mid w b of ty cs d (hr w hw) hu hd hi, Oper.quietUpon, and_self]
theorem Try.infoBool4 : (Try.prog.info? 4).map (fun i => (i.zero, i.size, i.bytes)) = some (some (.bool false), 1, 1) := by kernel_rfl
theorem Try.underBools : Try.prog.underlying 47 = some (.slice 4) := by kernel_rfl
set_option maxRecDepth 100000 in
set_option maxHeartbeats 8000000 in
theorem stands_law (P : Int) (ss : List Sg) (l : List Nd) (d wd : Int) (A A2 : Option Addr) (c c2 : Nat) (hl : ss.length ≤ 9223372036854775807) (hv : ∀ s ∈ ss, s.vals.length ≤ 9223372036854775807) (w : World) (rs : Sgs w w.heap.size A ss) (rn : Nds w w.heap.size A2 l) :
    Calls Try.prog 4 #[.agg #[.int .i64 P, .slice A ss.length c, .slice A2 l.length c2], .agg #[.int .i64 d, .int .i64 wd]] w fun e w' => e = .returned (.bool true) ∧ Below w.heap.size w w' := by
  obtain ⟨r1, hr1⟩ : ∃ x : Bool, (x = true ↔ BigP ss l) := by
    by_cases h : BigP ss l
    · exact ⟨true, iff_of_true rfl h⟩
    · exact ⟨false, iff_of_false (by simp) h⟩
  have hsm := fun h : ¬ BigP ss l => small_of h
  obtain ⟨w1, hw1⟩ : ∃ w1, w1 = (w.alloc (.cells #[.int .i64 P, .slice A ss.length c, .slice A2 l.length c2] 29)).alloc (.cells #[.int .i64 d, .int .i64 wd] 31) := ⟨_, rfl⟩
  have hb1 : Below w.heap.size w w1 := by rw [hw1]; exact ((Below.refl _ _).alloc (Nat.le_refl _) _).alloc (by simp) _
  have hz1 : w1.heap.size = w.heap.size + 2 := by rw [hw1]; simp
  have g0 : w1.heap[w.heap.size]? = some (.cells #[.int .i64 P, .slice A ss.length c, .slice A2 l.length c2] 29 (0, 0)) := by rw [hw1]; exact old_blk (nw_blk rfl)
  have g1 : w1.heap[w.heap.size + 1]? = some (.cells #[.int .i64 d, .int .i64 wd] 31 (0, 0)) := by rw [hw1]; exact nw_blk (by simp)
  have HC := hid fun (W : World) (h : Below w1.heap.size w1 W) => (show (W.cell? ⟨w.heap.size, 0, none⟩ = some (.int .i64 P) ∧ W.cell? ⟨w.heap.size, 1, none⟩ = some (.slice A ss.length c) ∧ W.cell? ⟨w.heap.size, 2, none⟩ = some (.slice A2 l.length c2)) ∧ W.cell? ⟨w.heap.size + 1, 0, none⟩ = some (.int .i64 d) ∧ W.cell? ⟨w.heap.size + 1, 1, none⟩ = some (.int .i64 wd) from by
    have e0 := (h.block _ (by omega)).trans g0
    have e1 := (h.block _ (by omega)).trans g1
    refine ⟨⟨?_, ?_, ?_⟩, ?_, ?_⟩ <;> simp [World.cell?, e0, e1])
  have HBG := hid ((bigP_any P ss l A A2 c c2 hl hv w1 ((rs.below hb1).more hb1.size)).mono fun e w' hb => hb.get hr1)
  have HRS := hid fun (W : World) (h : Below w1.heap.size w1 W) => (show Sgs W W.heap.size A ss from (rs.below (hb1.trans (h.mono hb1.size))).more (Nat.le_trans hb1.size h.size))
  have HRN := hid fun (W : World) (h : Below w1.heap.size w1 W) => (show Nds W W.heap.size A2 l from (rn.below (hb1.trans (h.mono hb1.size))).more (Nat.le_trans hb1.size h.size))
  have HWK := hid fun (W : World) => works_any W
  have HPC := hid fun (W : World) => pageCheckR_any d wd W
  have HCK := hid fun (s1 : ss.length ≤ 30) (s2 : l.length ≤ 210) (s3 : ∀ s ∈ ss, s.vals.length ≤ 20) (W : World) (h : Below w1.heap.size w1 W) => refCheck_any P ss l (by omega) (fun s hs => by have := s3 s hs; omega) (by omega) A A2 c c2 W (HRS.out W h) (HRN.out W h)
  have HPL := hid fun (s1 : ss.length ≤ 30) (s2 : l.length ≤ 210) (s3 : ∀ s ∈ ss, s.vals.length ≤ 20) (W : World) (h : Below w1.heap.size w1 W) => refPlain_any P ss l (by omega) (fun s hs => by have := s3 s hs; omega) (by omega) A A2 c c2 W (HRS.out W h) (HRN.out W h)
  have HN1 := hid fun (s1 : ss.length ≤ 30) (s2 : l.length ≤ 210) (s3 : ∀ s ∈ ss, s.vals.length ≤ 20) (ss' : List Sg) (A3 A4 : Option Addr) (c3 c4 : Nat) (W : World) (hp : Copies ss l ss' A3 A4 c3 c4 W) => (show Calls Try.prog 13 #[.agg #[.int .i64 P, .slice A3 ss'.length c3], .agg #[.slice A4 l.length c4], .agg #[.int .i64 d, .int .i64 wd]] W fun e w' => ∃ A' c', e = .returned (.tuple #[.slice A' (layR P ss l d wd).length c', .int .i64 (begE P ss l d wd)]) ∧ Bxr w' w'.heap.size A' (layR P ss l d wd) ∧ Below W.heap.size W w' from by
    have := (lay_any P ss' l (by rw [hp.len]; omega) (hp.vals s3) (by omega) d wd A3 A4 c3 c4 W hp.sg hp.nd).mono fun e w' h => lay_outS h
    rwa [begE_core hp.core, layR_core hp.core] at this)
  have HLI := hid fun (s1 : ss.length ≤ 30) (s3 : ∀ s ∈ ss, s.vals.length ≤ 20) (W : World) (h : Below w1.heap.size w1 W) => list_at (P := P) (c := c) (V := .slice A2 l.length c2) s1 s3 hb1 rs W h
  have HTX := hid fun (s2 : l.length ≤ 210) (W : World) (h : Below w1.heap.size w1 W) => text_at (P := P) (A := A) (N := ss.length) (c := c) (c2 := c2) s2 hb1 rn W h
  have hok := fun h1 h2 => std_ok (P := P) (ss := ss) (l := l) (d := d) (wd := wd) h1 h2
  unfold TxtPost at HPL
  generalize plnL P ss l = L at *
  generalize layR P ss l d wd = V at *
  generalize begE P ss l d wd = E at *
  generalize chkE P ss l = CE at *
  generalize pageE d wd = PE at *
  have HW1 := hid hw1; have HB1 := hid hb1; have HSM := hid hsm; have HR1 := hid hr1; have HOK := hid hok
  clear hw1 rs rn hsm hr1 hv hl hb1 HRS HRN g0 g1 hok
  go_enter Try.func4, Try.ntmps4
  go_upto_region 1 with (fail)
  rw [← HW1.out]
  clear HW1
  obtain ⟨B0, hB0⟩ : ∃ B0, B0 = w.heap.size := ⟨_, rfl⟩
  obtain ⟨B1, hB1⟩ : ∃ B1, B1 = B0 + 1 := ⟨_, rfl⟩
  rw [← hB0] at HC
  rw [← hB1] at HC
  rw [← hB0]
  try rw [← hB1]
  clear hB0 hB1 hz1
  obtain ⟨⟨c0, c1, c2'⟩, c3, c4⟩ := HC.out w1 (Below.refl _ _)
  cases r1 with
  | true =>
    go_wp2_with (first | (go_at_call 10; refine HBG.out.mono ?_; rintro e w2 ⟨rfl, hb2⟩; have HB2 := hid hb2; clear hb2 c0 c1 c2' c3 c4) | (go_at_call 11; refine (HWK.out _).mono ?_; rintro e w3 ⟨rfl, hb3⟩; have HB3 := hid (bnext HB2.out hb3); clear hb3))
    go_ret
    exact ⟨rfl, HB1.out.trans (HB3.out.mono HB1.out.size)⟩
  | false =>
    obtain ⟨s1, s2, s3⟩ := HSM.out (fun h => by have := HR1.out.2 h; cases this)
    replace HLI := hid (HLI.out s1 s3); replace HTX := hid (HTX.out s2)
    replace HN1 := hid (HN1.out s1 s2 s3); replace HPL := hid (HPL.out s1 s2 s3); replace HCK := hid (HCK.out s1 s2 s3)
    clear HSM HR1
    obtain ⟨N, hN⟩ : ∃ N, N = ss.length := ⟨_, rfl⟩
    obtain ⟨n, hn⟩ : ∃ n, n = l.length := ⟨_, rfl⟩
    have HNl := hid hn
    rw [← hN] at c1 HC HBG HLI HTX HCK HPL ⊢
    rw [← hn] at c2' HC HBG HLI HTX HCK HPL HN1 ⊢
    clear hN hn s1 s2 s3
    by_cases h1 : CE = 0
    rotate_left
    · have e1 : (CE != 0) = true := by simpa using h1
      clear h1 HOK
      go_wp2_with (first | (go_at_call 10; refine HBG.out.mono ?_; rintro e w2 ⟨rfl, hb2⟩; have HB2 := hid hb2; clear hb2 c0 c1 c2' c3 c4; obtain ⟨⟨c0, c1, c2'⟩, c3, c4⟩ := HC.out w2 HB2.out) | (go_at_call 18; refine (HCK.out w2 HB2.out).mono ?_; rintro e w3 ⟨rfl, hb3⟩; have HB3 := hid (bnext HB2.out hb3); clear hb3 c0 c1 c2' c3 c4; obtain ⟨⟨c0, c1, c2'⟩, c3, c4⟩ := HC.out w3 HB3.out) | (go_at_call 11; refine (HWK.out _).mono ?_; rintro e w5 ⟨rfl, hb5⟩; have HB5 := hid (bnext HB3.out hb5); clear hb5))
      go_ret
      exact ⟨rfl, HB1.out.trans (HB5.out.mono HB1.out.size)⟩
    by_cases h2 : PE = 0
    rotate_left
    · have e1 : (CE != 0) = false := by simpa using h1
      have e2 : (PE != 0) = true := by simpa using h2
      clear h1 h2 HOK
      go_wp2_with (first | (go_at_call 10; refine HBG.out.mono ?_; rintro e w2 ⟨rfl, hb2⟩; have HB2 := hid hb2; clear hb2 c0 c1 c2' c3 c4; obtain ⟨⟨c0, c1, c2'⟩, c3, c4⟩ := HC.out w2 HB2.out) | (go_at_call 18; refine (HCK.out w2 HB2.out).mono ?_; rintro e w3 ⟨rfl, hb3⟩; have HB3 := hid (bnext HB2.out hb3); clear hb3 c0 c1 c2' c3 c4; obtain ⟨⟨c0, c1, c2'⟩, c3, c4⟩ := HC.out w3 HB3.out) | (go_at_call 19; refine (HPC.out w3).mono ?_; rintro e w4 ⟨rfl, hb4⟩; have HB4 := hid (bnext HB3.out hb4); clear hb4 c0 c1 c2' c3 c4) | (go_at_call 11; refine (HWK.out _).mono ?_; rintro e w5 ⟨rfl, hb5⟩; have HB5 := hid (bnext HB4.out hb5); clear hb5))
      go_ret
      exact ⟨rfl, HB1.out.trans (HB5.out.mono HB1.out.size)⟩
    obtain ⟨hE, hst, hd⟩ := HOK.out h1 h2
    subst h1 h2 hE
    have HST := hid hst; have HD := hid hd
    obtain ⟨m, hm⟩ : ∃ m, m = V.length := ⟨_, rfl⟩
    obtain ⟨q, hq⟩ : ∃ q, q = L.length := ⟨_, rfl⟩
    have HM := hid hm; have HQ := hid hq
    rw [← hm] at HN1
    rw [← hq] at HPL
    clear HOK hst hd hm hq
    go_upto_region 3 with (first | (go_at_call 10; refine HBG.out.mono ?_; rintro e w2 ⟨rfl, hb2⟩; have HB2 := hid hb2; clear hb2 c0 c1 c2' c3 c4; obtain ⟨⟨c0, c1, c2'⟩, c3, c4⟩ := HC.out w2 HB2.out) | (go_at_call 18; refine (HCK.out w2 HB2.out).mono ?_; rintro e w3 ⟨rfl, hb3⟩; have HB3 := hid (bnext HB2.out hb3); clear hb3 c0 c1 c2' c3 c4; obtain ⟨⟨c0, c1, c2'⟩, c3, c4⟩ := HC.out w3 HB3.out) | (go_at_call 19; refine (HPC.out w3).mono ?_; rintro e w4 ⟨rfl, hb4⟩; have HB4 := hid (bnext HB3.out hb4); clear hb4 c0 c1 c2' c3 c4))
    obtain ⟨⟨q0, q1, q2⟩, q3, q4⟩ := HC.out w4 HB4.out
    go_region_held3 (fun w' => (w'.cell? ⟨B0, 0, none⟩ = some (.int .i64 P) ∧ w'.cell? ⟨B0, 1, none⟩ = some (.slice A N c) ∧ w'.cell? ⟨B0, 2, none⟩ = some (.slice A2 n c2)) ∧ w'.cell? ⟨B1, 0, none⟩ = some (.int .i64 d) ∧ w'.cell? ⟨B1, 1, none⟩ = some (.int .i64 wd)) (first | exact ⟨⟨q0, q1, q2⟩, q3, q4⟩ | exact HC.out _ HB30.out | exact HC.out _ HB31.out | exact HC.out _ HB32.out | fail) (first | (go_at_call 14; refine (HLI.out _ (by first | exact HB4.out.drew | exact HB4.out)).mono ?_; rintro e w30 ⟨A30, c30, ss30, rfl, hl30, hb30⟩; have HL30 := hid hl30; have HB30 := hid (bnext (by first | exact HB4.out.drew | exact HB4.out) hb30); clear hl30 hb30) | (go_at_call 12; refine (HTX.out _ HB30.out).mono ?_; rintro e w31 ⟨A31, c31, rfl, ho31, hb31⟩; have HP31 := hid (Copies.mk' (c4 := c31) HL30.out hb31 (by rw [← HNl.out]; exact ho31)); have HB31 := hid (bnext HB30.out hb31); clear ho31 hb31) | (go_at_call 13; refine (HN1.out _ _ _ _ _ _ HP31.out).mono ?_; rintro e w32 ⟨A32, c32, rfl, hr32, hb32⟩; have HL32 := hid hr32; have HB32 := hid (bnext HB31.out hb32); clear hr32 hb32))
    clear q0 q1 q2 q3 q4
    obtain ⟨⟨q0, q1, q2⟩, q3, q4⟩ := HC.out w32 HB32.out
    go_upto_region 5 with (first | (go_at_call 20; refine (HPL.out _ HB32.out).mono ?_; rintro e w33 ⟨v33, rfl, ho33, hb33⟩; obtain ⟨A33, c33, rfl⟩ := own_slice ho33; have HO33 := hid ho33; have HB33 := hid (bnext HB32.out hb33); have HL33 := hid (show Bxr w33 w33.heap.size A32 V from rdn HL32.out hb33); clear ho33 hb33))
    obtain ⟨w5, hw5⟩ : ∃ W, W = w33.alloc (.cells #[.slice A33 q c33] 27) := ⟨_, rfl⟩
    obtain ⟨b7, hb7⟩ : ∃ b, b = w33.heap.size := ⟨_, rfl⟩
    have hx5 : Below w33.heap.size w33 w5 := by rw [hw5]; exact (Below.refl _ _).alloc (Nat.le_refl _) _
    have HTX5 := hid (show TxB w5 b7 (.slice A33 q c33) by rw [hw5, hb7]; exact nw_blk rfl)
    have hnd : Nds w5 w5.heap.size A33 L := by
      have ho := HO33.out
      rw [HQ.out] at ho
      exact rdn (Reads.of_own ho) hx5
    have HB5 := hid (bnext HB33.out hx5)
    have HL5 := hid (show Bxr w5 w5.heap.size A32 V from rdn HL33.out hx5)
    have HN5 := hid hnd
    rw [← hw5]
    try rw [← hb7]
    clear hw5 hb7 hx5 hnd HO33 HL33 HL32 HP31 HL30 HB30 HB31 HB32 HLI HTX HN1 HPL HCK HPC q0 q1 q2 q3 q4
    have hm200 : m ≤ 200 := by
      have h1 := HST.out.m; have h2 := cV_le L L.length; have h3 := HST.out.len; have h4 := HM.out
      omega
    have hq200 : q ≤ 200 := by have h3 := HST.out.len; have h4 := HQ.out; omega
    have hmk : ∀ W, (Instr.makeSlice 47 (.int .i64 ((m : Int) + 1)) (.int .i64 ((m : Int) + 1))).run Try.prog W = .ok (.slice (some ⟨W.heap.size, 0, none⟩) (m + 1) (m + 1)) (W.alloc (.cells (madeCells #[.bool false] (m + 1)) 4)) := fun W => by
      have := run_make_row' (P := Try.prog) 47 4 (.bool false) 1 Try.underBools Try.infoBool4 rfl .i64 .i64 (m + 1) (by omega) (by omega) W
      simpa using this
    go_upto_region 7 with (fail)
    obtain ⟨w6, hw6⟩ : ∃ W, W = w5.alloc (.cells (madeCells #[.bool false] (m + 1)) 4) := ⟨_, rfl⟩
    obtain ⟨bo, hbo⟩ : ∃ b, b = w5.heap.size := ⟨_, rfl⟩
    have HR6 := hid (show w6.rowIs bo 4 (m + 1) (fun _ => .bool false) by rw [hw6, hbo]; exact World.rowIs_made w5 (.bool false) (m + 1) 4)
    have HX6 := hid (show Below w5.heap.size w5 w6 by rw [hw6]; exact (Below.refl _ _).alloc (Nat.le_refl _) _)
    have HBO := hid (show w5.heap.size ≤ bo by omega)
    rw [← hw6]
    try rw [← hbo]
    clear hw6 hbo hmk
    have HLF := hid fun (k : Int) (W : World) => leaf_any k W
    go_wp2_with fail
    go_loopw [9, 11] (fun nv iv wr => ∃ j : Nat, j ≤ q ∧ iv = .int .i64 j ∧ nv = .int .i64 (cV L j) ∧ Hid (wr.rowIs bo 4 (m + 1) (fun i => .bool (ovJ L j i))) ∧ Hid (Below w5.heap.size w5 wr)) (fun _ iv _ => q - (intOf iv).toNat)
    case atStart => exact ⟨0, by omega, rfl, rfl, HR6, HX6⟩
    case round =>
      clear HR6 HX6
      obtain ⟨j, hj, rfl, rfl, hR, hB⟩ := hrel
      by_cases hjq : j < q
      · have hjL : j < L.length := by rw [← HQ.out]; exact hjq
        obtain ⟨bn, on, rfl, hbn, hcn⟩ := HN5.out.at (by omega)
        have hkn := ((hcn j hjL).below hB.out hbn).kind
        have hcs := cV_s L j
        have hvis := HST.out.vis j hjL
        have hov := fun i => ovJ_s (L := L) (j := j) (i := i)
        have hkd := kd_at hjL
        have hle : cV L j ≤ m := by
          have h1 := HST.out.m; have h2 := cV_mono L (show j ≤ L.length by omega); have h4 := HM.out
          omega
        have t7 := (HTX5.out.below hB.out).cells
        rw [hkd] at hcs hov
        obtain ⟨kk, hkk⟩ : ∃ k, k = L[j].kind := ⟨_, rfl⟩
        rw [← hkk] at hcs hov hkn hvis
        obtain ⟨v, hv⟩ : ∃ v, v = cV L j := ⟨_, rfl⟩
        rw [← hv] at hcs hov hle hvis ⊢
        obtain ⟨v2, hv2⟩ : ∃ v, v = cV L (j + 1) := ⟨_, rfl⟩
        rw [← hv2] at hcs
        have q0 : (j : Int) < (q : Int) := by omega
        have HV2 := hid hv2; have HOV := hid hov
        clear hkd hkk hv hv2 hov hcn hbn hjL
        by_cases hvk : visB kk = true
        · rw [if_pos hvk] at hcs
          subst hcs
          obtain ⟨hvV, hkb⟩ := hvis hvk
          obtain ⟨bb, ob, rfl, hbb, hcb⟩ := HL5.out.at (by omega)
          have hr0 := range_below (hcb v hvV) hB.out hbb
          have t8 := hr0 0 _ rfl
          simp only [Nat.add_zero] at t8
          rw [hkb] at t8
          have q1 : (v : Int) < (m : Int) := by have := HM.out; omega
          have h4 : decide (kk = 4) = false := by
            refine decide_eq_false fun h => ?_
            subst h
            exact absurd hvk (by decide)
          have HR2 := hid (show wr.rowIs bo 4 (m + 1) (fun i => .bool (ovJ L (j + 1) i)) from hR.out.congr fun i _ => by rw [HOV.out, h4]; simp)
          have e4 : (kk == 4) = false := by simpa using h4
          clear hvis hcb hbb hr0 hkb h4 hR
          cases hlf : leafB kk with
          | true =>
            clear hvk
            go_wp2_with (first | (go_at_call 21; refine (HLF.out _ _).mono ?_; rintro e w9 ⟨rfl, rfl⟩; rw [hlf]))
            go_roundw
            case rel => exact ⟨j + 1, by omega, by go_num, by rw [← HV2.out]; go_num, HR2, hB⟩
            case measure => simp [intOf]; omega
          | false =>
            have e5 : (kk == 5) = true := by
              unfold visB at hvk
              rw [hlf] at hvk
              simpa using hvk
            clear hvk
            go_wp2_with (first | (go_at_call 21; refine (HLF.out _ _).mono ?_; rintro e w9 ⟨rfl, rfl⟩; rw [hlf]))
            go_roundw
            case rel => exact ⟨j + 1, by omega, by go_num, by rw [← HV2.out]; go_num, HR2, hB⟩
            case measure => simp [intOf]; omega
        · rw [if_neg hvk, Nat.add_zero] at hcs
          subst hcs
          have hvk2 : leafB kk = false ∧ (kk == 5) = false := by
            unfold visB at hvk
            simpa using hvk
          obtain ⟨hlf, e5⟩ := hvk2
          clear hvis hvk
          by_cases h4 : kk = 4
          · subst h4
            have q1 : (v2 : Int) < ((m + 1 : Nat) : Int) := by omega
            have q2 : (v2 : Int) < (m : Int) + 1 := by omega
            have k1 := hR.out.cell (show v2 < m + 1 by omega)
            have k2 := hR.out.frozen v2
            have HR2 := hid (show (wr.setCell ⟨bo, v2, none⟩ (.bool true)).rowIs bo 4 (m + 1) (fun i => .bool (ovJ L (j + 1) i)) from (hR.out.set v2 _).congr fun i _ => by
              rw [HOV.out]
              by_cases e : i = v2
              · subst e; simp
              · rw [if_neg e]; simp [Ne.symm e])
            have HX2 := hid (hB.out.setCell (p := ⟨bo, v2, none⟩) HBO.out (.bool true))
            clear hR
            go_wp2_with (first | (go_at_call 21; refine (HLF.out _ _).mono ?_; rintro e w9 ⟨rfl, rfl⟩; rw [hlf]))
            go_roundw
            case rel => exact ⟨j + 1, by omega, by go_num, by rw [← HV2.out], HR2, HX2⟩
            case measure => simp [intOf]; omega
          · have e4 : (kk == 4) = false := by simpa using h4
            have h4' : decide (kk = 4) = false := decide_eq_false h4
            have HR2 := hid (show wr.rowIs bo 4 (m + 1) (fun i => .bool (ovJ L (j + 1) i)) from hR.out.congr fun i _ => by rw [HOV.out, h4']; simp)
            clear hR h4 h4'
            go_wp2_with (first | (go_at_call 21; refine (HLF.out _ _).mono ?_; rintro e w9 ⟨rfl, rfl⟩; rw [hlf]))
            go_roundw
            case rel => exact ⟨j + 1, by omega, by go_num, by rw [← HV2.out], HR2, hB⟩
            case measure => simp [intOf]; omega
      · obtain rfl : j = q := by omega
        have hvm : cV L j = m := by rw [HM.out, HST.out.m, ← HQ.out]
        rw [hvm]
        have q0 : decide ((j : Int) < (j : Int)) = false := by simp
        obtain ⟨w8, hw8⟩ : ∃ W, W = wr := ⟨_, rfl⟩
        rw [← hw8] at hR hB
        rw [← hw8]
        have HCR := hid fun (a b : Bxv) (ha : a.placed) (hb : b.placed) (W : World) => crossR_any a b ha hb W
        have HPD := hid fun (a : Bxv) (ha : a.placed) (W : World) => (show Calls Try.prog 22 #[.agg #[.int .i64 a.nd.kind, .int .i64 a.nd.sign, .int .i64 a.nd.turn, .bool a.nd.mir, .int .i64 a.nd.state, .int .i64 a.nd.mn, .int .i64 a.nd.mx, .int .i64 a.x.n, .int .i64 a.x.d, .int .i64 a.y.n, .int .i64 a.y.d, .int .i64 a.w.n, .int .i64 a.w.d, .int .i64 a.h.n, .int .i64 a.h.d]] W fun e w' => e = .returned (.bool true) ∧ Below W.heap.size W w' from by
          have := placedR_any a W
          rwa [plB_t ha] at this)
        have HWI := hid fun (a : Bxv) (ha : a.placed) (hw : a.within d) (W : World) => within_any a d wd HD.out ha hw W
        have HCN := hid fun (a b : Bxv) (hx : HoldOk a.x a.w b.x b.w) (hy : HoldOk a.y a.h b.y b.h) (hh : holdsP a b) (W : World) => boxIn_any a b hx hy hh W
        have HRV := hid fun (i : Nat) => (show ovJ L L.length i = ovJ L j i from by rw [← HQ.out])
        clear hw8 hvm
        have t7 := (HTX5.out.below hB.out).cells
        go_wp2_with fail
        go_loopw [13] (fun iv wr => ∃ i : Nat, i ≤ m ∧ iv = .int .i64 i ∧ Hid (Below w8.heap.size w8 wr)) (fun iv _ => m - (intOf iv).toNat)
        case atStart => exact ⟨0, by omega, rfl, hid (Below.refl _ _)⟩
        case round =>
          obtain ⟨i, hi, rfl, hB2⟩ := hrel
          by_cases him : i < m
          · have hiV : i < V.length := by rw [← HM.out]; exact him
            obtain ⟨bb, ob, rfl, hbb, hcb⟩ := HL5.out.at (by omega)
            have HCB := hid hcb; have HBB := hid hbb
            have hci := hcb i hiV
            obtain ⟨hpl, hwi⟩ := HST.out.std i hiV
            have HCS := hid fun (k : Nat) (hk : k < V.length) (hik : i < k) => HST.out.crs i k hiV hk hik
            have q1 : (i : Int) < (m : Int) := by omega
            clear hcb
            generalize V[i] = a at *
            have HA := hid fun (u : World) (hu : Below w8.heap.size w8 u) => (show u.rangeAt bb (ob + i * 15) [.int .i64 a.nd.kind, .int .i64 a.nd.sign, .int .i64 a.nd.turn, .bool a.nd.mir, .int .i64 a.nd.state, .int .i64 a.nd.mn, .int .i64 a.nd.mx, .int .i64 a.x.n, .int .i64 a.x.d, .int .i64 a.y.n, .int .i64 a.y.d, .int .i64 a.w.n, .int .i64 a.w.d, .int .i64 a.h.n, .int .i64 a.h.d] from range_below (range_below hci hB.out HBB.out) hu (by have := hB.out.size; have := HBB.out; omega))
            have HLA := hid fun (u : World) (h : ∃ z : BW wr.heap.size wr, u = z.val) => (show u.rangeAt bb (ob + i * 15) [.int .i64 a.nd.kind, .int .i64 a.nd.sign, .int .i64 a.nd.turn, .bool a.nd.mir, .int .i64 a.nd.state, .int .i64 a.nd.mn, .int .i64 a.nd.mx, .int .i64 a.x.n, .int .i64 a.x.d, .int .i64 a.y.n, .int .i64 a.y.d, .int .i64 a.w.n, .int .i64 a.w.d, .int .i64 a.h.n, .int .i64 a.h.d] from by
              obtain ⟨z, rfl⟩ := h
              exact HA.out _ (bnext0 hB2.out z.ok))
            have HZA := hid (below_class (wb := wr) (Nat.le_refl wr.heap.size) fun z => HPD.out a hpl z.val)
            have HZB := hid (below_class (wb := wr) (Nat.le_refl wr.heap.size) fun z => HWI.out a hpl hwi z.val)
            have cz := fun z : BW wr.heap.size wr => (HC.out z.val (bnext HB5.out (bnext hB.out (bnext0 hB2.out z.ok)))).2
            have j3 := fun z => (cz z).1; have j4 := fun z => (cz z).2
            have HPA := hid hpl
            clear cz hci hpl hwi
            go_upto_region 22 with (fail)
            refine region_below (by kernel_rfl) (by kernel_rfl) (Below.refl wr.heap.size wr) ?_
            repeat (first | go_big_quiet_skip | (refine quiet_load_row rfl 54 (.tmp 113) rfl bb (ob + i * 15) _ _ rfl HLA.out Try.underBox (by kernel_rfl) (by kernel_rfl) ?_; simp only [Act.put, List.setIfInBounds_toArray, List.set_cons_succ, List.set_cons_zero]) | (refine quiet_load_want 54 (.tmp 120) rfl rfl bb (ob + i * 15) _ _ rfl HLA.out Try.underBox (by kernel_rfl) (by kernel_rfl) ?_; simp only [Act.put, List.setIfInBounds_toArray, List.set_cons_succ, List.set_cons_zero]) | go_big_quiet_step (first | (go_at_call 22; with_reducible exact (HZA.out _)) | (go_at_call 23; with_reducible exact (HZB.out _))))
            refine wpQuiet_nil ?_
            intro _ hw'
            obtain ⟨z, rfl⟩ := hw'
            have HX9 := hid (show Below w8.heap.size w8 z.val from bnext0 hB2.out z.ok)
            obtain ⟨w9, hw9⟩ : ∃ W, W = z.val := ⟨_, rfl⟩
            rw [← hw9] at HX9
            rw [← hw9]
            clear hw9 HLA HZA HZB j3 j4 hB2
            go_wp2_with fail
            go_loopw [14] (fun kv wr => ∃ k : Nat, (i + 1 ≤ k ∧ k ≤ m) ∧ kv = .int .i64 k ∧ Hid (Below w8.heap.size w8 wr)) (fun kv _ => m - (intOf kv).toNat)
            case atStart => exact ⟨i + 1, ⟨by omega, by omega⟩, by go_num, HX9⟩
            case round =>
              obtain ⟨k, ⟨hk0, hk1⟩, rfl, hB3⟩ := hrel
              by_cases hkm : k < m
              · have hkV : k < V.length := by rw [← HM.out]; exact hkm
                have q2 : (k : Int) < (m : Int) := by omega
                have hck := HCB.out k hkV
                have hpk := (HST.out.std k hkV).1
                have hcs := HCS.out k hkV (by omega)
                generalize V[k] = b at *
                have HLA := hid fun (u : World) (h : ∃ z : BW wr.heap.size wr, u = z.val) => (show u.rangeAt bb (ob + i * 15) [.int .i64 a.nd.kind, .int .i64 a.nd.sign, .int .i64 a.nd.turn, .bool a.nd.mir, .int .i64 a.nd.state, .int .i64 a.nd.mn, .int .i64 a.nd.mx, .int .i64 a.x.n, .int .i64 a.x.d, .int .i64 a.y.n, .int .i64 a.y.d, .int .i64 a.w.n, .int .i64 a.w.d, .int .i64 a.h.n, .int .i64 a.h.d] from by
                  obtain ⟨z, rfl⟩ := h
                  exact HA.out _ (bnext0 hB3.out z.ok))
                have HBk := hid fun (u : World) (hu : Below w8.heap.size w8 u) => (show u.rangeAt bb (ob + k * 15) [.int .i64 b.nd.kind, .int .i64 b.nd.sign, .int .i64 b.nd.turn, .bool b.nd.mir, .int .i64 b.nd.state, .int .i64 b.nd.mn, .int .i64 b.nd.mx, .int .i64 b.x.n, .int .i64 b.x.d, .int .i64 b.y.n, .int .i64 b.y.d, .int .i64 b.w.n, .int .i64 b.w.d, .int .i64 b.h.n, .int .i64 b.h.d] from range_below (range_below hck hB.out HBB.out) hu (by have := hB.out.size; have := HBB.out; omega))
                have HLB := hid fun (u : World) (h : ∃ z : BW wr.heap.size wr, u = z.val) => (show u.rangeAt bb (ob + k * 15) [.int .i64 b.nd.kind, .int .i64 b.nd.sign, .int .i64 b.nd.turn, .bool b.nd.mir, .int .i64 b.nd.state, .int .i64 b.nd.mn, .int .i64 b.nd.mx, .int .i64 b.x.n, .int .i64 b.x.d, .int .i64 b.y.n, .int .i64 b.y.d, .int .i64 b.w.n, .int .i64 b.w.d, .int .i64 b.h.n, .int .i64 b.h.d] from by
                  obtain ⟨z, rfl⟩ := h
                  exact HBk.out _ (bnext0 hB3.out z.ok))
                have HZC := hid (below_class (wb := wr) (Nat.le_refl wr.heap.size) fun z => HCR.out a b HPA.out hpk z.val)
                clear hck hpk
                cases hcr : crB a b with
                | false =>
                  rw [hcr] at HZC
                  clear hcs hcr
                  go_upto_region 27 with (fail)
                  refine region_below (by kernel_rfl) (by kernel_rfl) (Below.refl wr.heap.size wr) ?_
                  repeat (first | go_big_quiet_skip | (refine quiet_load_row rfl 54 (.tmp 136) rfl bb (ob + i * 15) _ _ rfl HLA.out Try.underBox (by kernel_rfl) (by kernel_rfl) ?_; simp only [Act.put, List.setIfInBounds_toArray, List.set_cons_succ, List.set_cons_zero]) | (refine quiet_load_row rfl 54 (.tmp 140) rfl bb (ob + k * 15) _ _ rfl HLB.out Try.underBox (by kernel_rfl) (by kernel_rfl) ?_; simp only [Act.put, List.setIfInBounds_toArray, List.set_cons_succ, List.set_cons_zero]) | go_big_quiet_step (first | (go_at_call 24; with_reducible exact (HZC.out _))))
                  refine wpQuiet_nil ?_
                  intro _ hw'
                  obtain ⟨z, rfl⟩ := hw'
                  have HX10 := hid (show Below w8.heap.size w8 z.val from bnext0 hB3.out z.ok)
                  clear HLA HLB HZC
                  go_wp2_with fail
                  go_roundw
                  case rel => exact ⟨k + 1, ⟨by omega, by omega⟩, by go_num, HX10⟩
                  case measure => simp [intOf]; omega
                | true =>
                  rw [hcr] at HZC
                  obtain ⟨⟨ho1, ho2⟩, hho, hkind⟩ := hcs (crB_iff.1 hcr)
                  have HCN2 := hid fun (W : World) => HCN.out a b ho1 ho2 hho W
                  clear hcr ho1 ho2 hho
                  go_upto_region 27 with (fail)
                  refine region_below (by kernel_rfl) (by kernel_rfl) (Below.refl wr.heap.size wr) ?_
                  repeat (first | go_big_quiet_skip | (refine quiet_load_row rfl 54 (.tmp 136) rfl bb (ob + i * 15) _ _ rfl HLA.out Try.underBox (by kernel_rfl) (by kernel_rfl) ?_; simp only [Act.put, List.setIfInBounds_toArray, List.set_cons_succ, List.set_cons_zero]) | (refine quiet_load_row rfl 54 (.tmp 140) rfl bb (ob + k * 15) _ _ rfl HLB.out Try.underBox (by kernel_rfl) (by kernel_rfl) ?_; simp only [Act.put, List.setIfInBounds_toArray, List.set_cons_succ, List.set_cons_zero]) | go_big_quiet_step (first | (go_at_call 24; with_reducible exact (HZC.out _))))
                  refine wpQuiet_nil ?_
                  intro _ hw'
                  obtain ⟨z, rfl⟩ := hw'
                  have HX10 := hid (show Below w8.heap.size w8 z.val from bnext0 hB3.out z.ok)
                  obtain ⟨w10, hw10⟩ : ∃ W, W = z.val := ⟨_, rfl⟩
                  rw [← hw10] at HX10
                  rw [← hw10]
                  clear hw10 HLA HLB HZC hB3
                  have HLA := hid fun (u : World) (h : ∃ z : BW w10.heap.size w10, u = z.val) => (show u.rangeAt bb (ob + i * 15) [.int .i64 a.nd.kind, .int .i64 a.nd.sign, .int .i64 a.nd.turn, .bool a.nd.mir, .int .i64 a.nd.state, .int .i64 a.nd.mn, .int .i64 a.nd.mx, .int .i64 a.x.n, .int .i64 a.x.d, .int .i64 a.y.n, .int .i64 a.y.d, .int .i64 a.w.n, .int .i64 a.w.d, .int .i64 a.h.n, .int .i64 a.h.d] from by
                    obtain ⟨z, rfl⟩ := h
                    exact HA.out _ (bnext0 HX10.out z.ok))
                  have HLB := hid fun (u : World) (h : ∃ z : BW w10.heap.size w10, u = z.val) => (show u.rangeAt bb (ob + k * 15) [.int .i64 b.nd.kind, .int .i64 b.nd.sign, .int .i64 b.nd.turn, .bool b.nd.mir, .int .i64 b.nd.state, .int .i64 b.nd.mn, .int .i64 b.nd.mx, .int .i64 b.x.n, .int .i64 b.x.d, .int .i64 b.y.n, .int .i64 b.y.d, .int .i64 b.w.n, .int .i64 b.w.d, .int .i64 b.h.n, .int .i64 b.h.d] from by
                    obtain ⟨z, rfl⟩ := h
                    exact HBk.out _ (bnext0 HX10.out z.ok))
                  have HZD := hid (below_class (wb := w10) (Nat.le_refl w10.heap.size) fun z => HCN2.out z.val)
                  by_cases h5 : a.nd.kind = 5
                  · have j5 := fun z : BW w10.heap.size w10 => (HLA.out z.val ⟨z, rfl⟩) 0 _ rfl
                    simp only [Nat.add_zero, h5] at j5
                    clear hkind h5
                    go_upto_region 28 with (fail)
                    refine region_below (by kernel_rfl) (by kernel_rfl) (Below.refl w10.heap.size w10) ?_
                    repeat (first | go_big_quiet_skip | (refine quiet_load_row rfl 54 (.tmp 146) rfl bb (ob + i * 15) _ _ rfl HLA.out Try.underBox (by kernel_rfl) (by kernel_rfl) ?_; simp only [Act.put, List.setIfInBounds_toArray, List.set_cons_succ, List.set_cons_zero]) | (refine quiet_load_row rfl 54 (.tmp 150) rfl bb (ob + k * 15) _ _ rfl HLB.out Try.underBox (by kernel_rfl) (by kernel_rfl) ?_; simp only [Act.put, List.setIfInBounds_toArray, List.set_cons_succ, List.set_cons_zero]) | go_big_quiet_step (first | (go_at_call 25; with_reducible exact (HZD.out _))))
                    refine wpQuiet_nil ?_
                    intro _ hw'
                    obtain ⟨z, rfl⟩ := hw'
                    have HX11 := hid (show Below w8.heap.size w8 z.val from bnext0 HX10.out z.ok)
                    clear HLA HLB HZD j5
                    go_wp2_with fail
                    go_roundw
                    case rel => exact ⟨k + 1, ⟨by omega, by omega⟩, by go_num, HX11⟩
                    case measure => simp [intOf]; omega
                  · obtain ⟨hki, hov⟩ := hkind.resolve_left h5
                    subst hki
                    have hov2 : ovJ L j i = true := by rw [← HRV.out]; exact hov
                    have hrw := fun z : BW w10.heap.size w10 => ((hR.out.of_block ((bnext0 HX10.out z.ok).block bo hR.out.lt)).cell (show i < m + 1 by omega))
                    simp only [hov2] at hrw
                    have j5 := fun z : BW w10.heap.size w10 => (HLA.out z.val ⟨z, rfl⟩) 0 _ rfl
                    simp only [Nat.add_zero] at j5
                    have e5 : (a.nd.kind != 5) = true := by simpa using h5
                    have e6 : (((i + 1 : Nat) : Int) != (i : Int) + 1) = false := by simp
                    clear hkind h5 hov hov2
                    go_upto_region 28 with (fail)
                    refine region_below (by kernel_rfl) (by kernel_rfl) (Below.refl w10.heap.size w10) ?_
                    repeat (first | go_big_quiet_skip | (refine quiet_load_row rfl 54 (.tmp 146) rfl bb (ob + i * 15) _ _ rfl HLA.out Try.underBox (by kernel_rfl) (by kernel_rfl) ?_; simp only [Act.put, List.setIfInBounds_toArray, List.set_cons_succ, List.set_cons_zero]) | (refine quiet_load_row rfl 54 (.tmp 150) rfl bb (ob + (i + 1) * 15) _ _ rfl HLB.out Try.underBox (by kernel_rfl) (by kernel_rfl) ?_; simp only [Act.put, List.setIfInBounds_toArray, List.set_cons_succ, List.set_cons_zero]) | go_big_quiet_step (first | (go_at_call 25; with_reducible exact (HZD.out _))))
                    refine wpQuiet_nil ?_
                    intro _ hw'
                    obtain ⟨z, rfl⟩ := hw'
                    have HX11 := hid (show Below w8.heap.size w8 z.val from bnext0 HX10.out z.ok)
                    clear HLA HLB HZD j5 hrw
                    go_wp2_with fail
                    go_roundw
                    case rel => exact ⟨i + 1 + 1, ⟨by omega, by omega⟩, by go_num, HX11⟩
                    case measure => simp [intOf]; omega
              · obtain rfl : k = m := by omega
                have q2 : decide ((k : Int) < (k : Int)) = false := by simp
                go_wp2_with fail
                go_roundw
                case rel => exact ⟨i + 1, by omega, by go_num, hB3⟩
                case measure => simp [intOf]; omega
          · obtain rfl : i = m := by omega
            have q1 : decide ((i : Int) < (i : Int)) = false := by simp
            go_wp2_with (first | (go_at_call 11; refine (HWK.out _).mono ?_; rintro e w9 ⟨rfl, hb9⟩; have HX9 := hid (bnext hB2.out hb9); clear hb9))
            go_ret
            exact ⟨rfl, HB1.out.trans ((bnext (bnext HB5.out hB.out) HX9.out).mono HB1.out.size)⟩
end Go.Proofs.Ytfkcpcdndleboaa
