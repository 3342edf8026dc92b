/- WALK: the law GridLines (printed by gen_l_lines4.py). -/
import Derived.Test.YtfkcpcdndleboaaArgsD
import Derived.Test.YtfkcpcdndleboaaLinesN
import Derived.Test.YtfkcpcdndleboaaLayE
import Derived.Test.YtfkcpcdndleboaaSizesLaw
import Derived.Test.YtfkcpcdndleboaaKidsLaw
namespace Go.Proofs.Ytfkcpcdndleboaa
open Go.RowKit
theorem linV_core {P : Int} {ss ss' : List Sg} (h : ss'.map Sg.core = ss.map Sg.core) (l : List Nd) (d wd : Int) : linV P ss' l d wd = linV P ss l d wd := by
  unfold linV
  rw [begE_core h, layS_core h]
theorem linV_bd {P : Int} {ss : List Sg} {l : List Nd} {d wd : Int} : (linV P ss l d wd).length ≤ 1000000 ∧ ∀ r ∈ linV P ss l d wd, r.length ≤ 1000000 := by
  unfold linV
  split
  · rename_i hb
    have hp : Pln P ss (plR l l.length) := pln_of (beg_ok hb).1
    have hn := hp.len
    have hk := kidsOf_len (l := plR l l.length) (node := -1) (by omega)
    have hl : (layS ss (plR l l.length) (decide (d ≤ 2)) wd).length ≤ 1000000 := by
      unfold layS
      rw [stands_len, List.length_map]
      omega
    refine ⟨Nat.le_trans (rowTo_len_le _ _) hl, fun r hr => Nat.le_trans (rowTo_row_le _ _ r hr) hl⟩
  · exact ⟨by simp, fun r hr => by cases hr⟩
/-- Lines that have been answered, in a slice. -/
structure LnR (W : World) (A : Option Addr) (V : List (List Int)) : Prop where
  at_ : ∀ j (hj : j < V.length), ∃ b A' c', A = some ⟨b, 0, none⟩ ∧ b < W.heap.size ∧ W.cell? ⟨b, j, none⟩ = some (.slice A' V[j].length c') ∧ Rd W W.heap.size A' V[j]
theorem LnR.of {E : Int} {V : List (List Int)} {w : World} {e : Ending} {w' : World} {m : Nat} (hm : m = V.length) (h : LinIs E V w e w') : ∃ A c, e = .returned (.tuple #[.slice A m c, .int .i64 E]) ∧ LnR w' A V ∧ Below w.heap.size w w' := by
  obtain ⟨v, es, he, h1, rfl, h2⟩ := h
  obtain ⟨A, c, hv⟩ := own_slice h1.own
  subst hv
  refine ⟨A, c, by rw [he, hm, List.length_map], ⟨fun j hj => ?_⟩, h2⟩
  have hj' : j < es.length := by simpa using hj
  obtain ⟨b, c', hv, hb, hc⟩ := LAll.at h1 (by omega)
  injection hv with hv _ _
  obtain ⟨A', c'', _, h3, h4⟩ := hc j hj'
  have e : (es.map fun t => t.2)[j] = es[j].2 := by simp
  rw [e]
  exact ⟨b, A', c'', hv, hb, h3, h4⟩
theorem LnR.below {W W' : World} {A : Option Addr} {V : List (List Int)} (h : LnR W A V) (hb : Below W.heap.size W W') : LnR W' A V := ⟨fun j hj => by
  obtain ⟨b, A', c', h1, h2, h3, h4⟩ := h.at_ j hj
  exact ⟨b, A', c', h1, Nat.lt_of_lt_of_le h2 hb.size, (hb.cell (p := ⟨b, j, none⟩) h2).trans h3, rdn h4 hb⟩⟩
set_option maxRecDepth 100000 in
set_option maxHeartbeats 8000000 in
theorem lines_law (P : Int) (ss : List Sg) (l : List Nd) (d wd : Int) (A A2 : Option Addr) (c c2 : Nat) (hl : ss.length ≤ 9223372036854775807) (hv : ∀ s ∈ ss, s.vals.length ≤ 9223372036854775807) (w : World) (rs : Sgs w w.heap.size A ss) (rn : Nds w w.heap.size A2 l) :
    Calls Try.prog 6 #[.agg #[.int .i64 P, .slice A ss.length c, .slice A2 l.length c2], .agg #[.int .i64 d, .int .i64 wd]] w fun e w' => e = .returned (.bool true) ∧ Below w.heap.size w w' := by
  obtain ⟨r1, hr1⟩ : ∃ x : Bool, (x = true ↔ BigP ss l) := by
    by_cases h : BigP ss l
    · exact ⟨true, iff_of_true rfl h⟩
    · exact ⟨false, iff_of_false (by simp) h⟩
  have hsm := fun h : ¬ BigP ss l => small_of h
  obtain ⟨w1, hw1⟩ : ∃ w1, w1 = (w.alloc (.cells #[.int .i64 P, .slice A ss.length c, .slice A2 l.length c2] 29)).alloc (.cells #[.int .i64 d, .int .i64 wd] 31) := ⟨_, rfl⟩
  have hb1 : Below w.heap.size w w1 := by rw [hw1]; exact ((Below.refl _ _).alloc (Nat.le_refl _) _).alloc (by simp) _
  have hz1 : w1.heap.size = w.heap.size + 2 := by rw [hw1]; simp
  have g0 : w1.heap[w.heap.size]? = some (.cells #[.int .i64 P, .slice A ss.length c, .slice A2 l.length c2] 29 (0, 0)) := by rw [hw1]; exact old_blk (nw_blk rfl)
  have g1 : w1.heap[w.heap.size + 1]? = some (.cells #[.int .i64 d, .int .i64 wd] 31 (0, 0)) := by rw [hw1]; exact nw_blk (by simp)
  have HC := hid fun (W : World) (h : Below w1.heap.size w1 W) => (show (W.cell? ⟨w.heap.size, 0, none⟩ = some (.int .i64 P) ∧ W.cell? ⟨w.heap.size, 1, none⟩ = some (.slice A ss.length c) ∧ W.cell? ⟨w.heap.size, 2, none⟩ = some (.slice A2 l.length c2)) ∧ W.cell? ⟨w.heap.size + 1, 0, none⟩ = some (.int .i64 d) ∧ W.cell? ⟨w.heap.size + 1, 1, none⟩ = some (.int .i64 wd) from by
    have e0 := (h.block _ (by omega)).trans g0
    have e1 := (h.block _ (by omega)).trans g1
    refine ⟨⟨?_, ?_, ?_⟩, ?_, ?_⟩ <;> simp [World.cell?, e0, e1])
  have HBG := hid ((bigP_any P ss l A A2 c c2 hl hv w1 ((rs.below hb1).more hb1.size)).mono fun e w' hb => hb.get hr1)
  have HRS := hid fun (W : World) (h : Below w1.heap.size w1 W) => (show Sgs W W.heap.size A ss from (rs.below (hb1.trans (h.mono hb1.size))).more (Nat.le_trans hb1.size h.size))
  have HRN := hid fun (W : World) (h : Below w1.heap.size w1 W) => (show Nds W W.heap.size A2 l from (rn.below (hb1.trans (h.mono hb1.size))).more (Nat.le_trans hb1.size h.size))
  have HWK := hid fun (W : World) => works_any W
  have HN1 := hid fun (s1 : ss.length ≤ 30) (s2 : l.length ≤ 210) (s3 : ∀ s ∈ ss, s.vals.length ≤ 20) (ss' : List Sg) (A3 A4 : Option Addr) (c3 c4 : Nat) (W : World) (hp : Copies ss l ss' A3 A4 c3 c4 W) => (show Calls Try.prog 28 #[.agg #[.int .i64 P, .slice A3 ss'.length c3], .agg #[.slice A4 l.length c4], .agg #[.int .i64 d, .int .i64 wd]] W (LinIs (begE P ss l d wd) (linV P ss l d wd) W) from by
    have := Lines_any P ss' l (by rw [hp.len]; omega) (hp.vals s3) (by omega) d wd A3 A4 c3 c4 W hp.sg hp.nd
    rwa [begE_core hp.core, linV_core hp.core] at this)
  have HN2 := hid fun (s1 : ss.length ≤ 30) (s2 : l.length ≤ 210) (s3 : ∀ s ∈ ss, s.vals.length ≤ 20) (W : World) (h : Below w1.heap.size w1 W) => LinesN_any P ss l (by omega) (fun s hs => by have := s3 s hs; omega) (by omega) d wd A A2 c c2 W (HRS.out W h) (HRN.out W h)
  have HLI := hid fun (s1 : ss.length ≤ 30) (s3 : ∀ s ∈ ss, s.vals.length ≤ 20) (W : World) (h : Below w1.heap.size w1 W) => list_at (P := P) (c := c) (V := .slice A2 l.length c2) s1 s3 hb1 rs W h
  have HTX := hid fun (s2 : l.length ≤ 210) (W : World) (h : Below w1.heap.size w1 W) => text_at (P := P) (A := A) (N := ss.length) (c := c) (c2 := c2) s2 hb1 rn W h
  obtain ⟨hvm, hvr⟩ := linV_bd (P := P) (ss := ss) (l := l) (d := d) (wd := wd)
  generalize linV P ss l d wd = V at *
  generalize begE P ss l d wd = E at *
  have HVR := hid hvr
  have HW1 := hid hw1; have HB1 := hid hb1; have HSM := hid hsm; have HR1 := hid hr1
  clear hw1 rs rn hsm hr1 hv hl hb1 HRS HRN g0 g1 hvr
  obtain ⟨m, hm⟩ : ∃ m, m = V.length := ⟨_, rfl⟩
  rw [← hm] at hvm
  have HM := hid hm
  clear hm
  go_enter Try.func6, Try.ntmps6
  go_upto_region 1 with (fail)
  rw [← HW1.out]
  clear HW1
  obtain ⟨B0, hB0⟩ : ∃ B0, B0 = w.heap.size := ⟨_, rfl⟩
  obtain ⟨B1, hB1⟩ : ∃ B1, B1 = B0 + 1 := ⟨_, rfl⟩
  rw [← hB0] at HC
  rw [← hB1] at HC
  rw [← hB0]
  try rw [← hB1]
  clear hB0 hB1 hz1
  obtain ⟨⟨c0, c1, c2'⟩, c3, c4⟩ := HC.out w1 (Below.refl _ _)
  cases r1 with
  | true =>
    go_wp2_with (first | (go_at_call 10; refine HBG.out.mono ?_; rintro e w2 ⟨rfl, hb2⟩; have HB2 := hid hb2; clear hb2 c0 c1 c2' c3 c4) | (go_at_call 11; refine (HWK.out _).mono ?_; rintro e w3 ⟨rfl, hb3⟩; have HB3 := hid (bnext HB2.out hb3); clear hb3))
    go_ret
    exact ⟨rfl, HB1.out.trans (HB3.out.mono HB1.out.size)⟩
  | false =>
    obtain ⟨s1, s2, s3⟩ := HSM.out (fun h => by have := HR1.out.2 h; cases this)
    replace HLI := hid (HLI.out s1 s3); replace HTX := hid (HTX.out s2)
    replace HN1 := hid (HN1.out s1 s2 s3); replace HN2 := hid (HN2.out s1 s2 s3)
    clear HSM HR1
    obtain ⟨N, hN⟩ : ∃ N, N = ss.length := ⟨_, rfl⟩
    obtain ⟨n, hn⟩ : ∃ n, n = l.length := ⟨_, rfl⟩
    have HNl := hid hn
    rw [← hN] at c1 HC HBG HLI HTX HN2 ⊢
    rw [← hn] at c2' HC HBG HLI HTX HN1 HN2 ⊢
    clear hN hn s1 s2 s3
    go_upto_region 3 with (first | (go_at_call 10; refine HBG.out.mono ?_; rintro e w2 ⟨rfl, hb2⟩; have HB2 := hid hb2; clear hb2 c0 c1 c2' c3 c4))
    obtain ⟨⟨q0, q1, q2⟩, q3, q4⟩ := HC.out w2 HB2.out
    go_region_held3 (fun w' => (w'.cell? ⟨B0, 0, none⟩ = some (.int .i64 P) ∧ w'.cell? ⟨B0, 1, none⟩ = some (.slice A N c) ∧ w'.cell? ⟨B0, 2, none⟩ = some (.slice A2 n c2)) ∧ w'.cell? ⟨B1, 0, none⟩ = some (.int .i64 d) ∧ w'.cell? ⟨B1, 1, none⟩ = some (.int .i64 wd)) (first | exact ⟨⟨q0, q1, q2⟩, q3, q4⟩ | exact HC.out _ HB30.out | exact HC.out _ HB31.out | exact HC.out _ HB32.out | fail) (first | (go_at_call 14; refine (HLI.out _ (by first | exact HB2.out.drew | exact HB2.out)).mono ?_; rintro e w30 ⟨A30, c30, ss30, rfl, hl30, hb30⟩; have HL30 := hid hl30; have HB30 := hid (bnext (by first | exact HB2.out.drew | exact HB2.out) hb30); clear hl30 hb30) | (go_at_call 12; refine (HTX.out _ HB30.out).mono ?_; rintro e w31 ⟨A31, c31, rfl, ho31, hb31⟩; have HP31 := hid (Copies.mk' (c4 := c31) HL30.out hb31 (by rw [← HNl.out]; exact ho31)); have HB31 := hid (bnext HB30.out hb31); clear ho31 hb31) | (go_at_call 28; refine (HN1.out _ _ _ _ _ _ HP31.out).mono ?_; rintro e w32 hl32; obtain ⟨A32, c32, rfl, hr32, hb32⟩ := LnR.of HM.out hl32; have HL32 := hid hr32; have HB32 := hid (bnext HB31.out hb32); clear hl32 hr32 hb32))
    clear q0 q1 q2 q3 q4
    obtain ⟨⟨q0, q1, q2⟩, q3, q4⟩ := HC.out w32 HB32.out
    go_upto_region 5 with (first | (go_at_call 29; refine (HN2.out _ HB32.out).mono ?_; rintro e w4 hl4; obtain ⟨A4, c4', rfl, hr4, hb4⟩ := LnR.of HM.out hl4; have HL4 := hid hr4; have HL3 := hid (HL32.out.below hb4); have HB4 := hid (bnext HB32.out hb4); clear hl4 hr4 hb4))
    clear q0 q1 q2 q3 q4 HN1 HN2 HP31 HL30 HB30 HB31 HL32
    have HSI := hid fun (a : List Int) (h : a.length ≤ 1000000) (A7 A9 : Option Addr) (c7 c9 : Nat) (W : World) (h7 : Rd W W.heap.size A7 a) (h9 : Rd W W.heap.size A9 a) => (sameInts_any a a A7 A9 c7 c9 h h W W.heap.size h7 h9).mono fun e w' hb => hb.get (r := true) (iff_of_true rfl rfl)
    go_wp2_with fail
    go_loopw [9] (fun iv wr => ∃ k : Nat, k ≤ m ∧ iv = .int .i64 k ∧ Hid (Below w4.heap.size w4 wr)) (fun iv _ => m - (intOf iv).toNat)
    case atStart => exact ⟨0, by omega, rfl, hid (Below.refl _ _)⟩
    case round =>
      obtain ⟨k, hk, rfl, hB⟩ := hrel
      by_cases hkm : k < m
      · have hkV : k < V.length := by rw [← HM.out]; exact hkm
        have hrl := HVR.out _ (List.getElem_mem hkV)
        obtain ⟨ba, Aa, ca, ha, hba, hca, hra⟩ := (HL3.out.below hB.out).at_ k hkV
        obtain ⟨bb, Ab, cb, hb, hbb, hcb, hrb⟩ := (HL4.out.below hB.out).at_ k hkV
        subst ha
        subst hb
        have q0 : (k : Int) < (m : Int) := by omega
        have q1 : (0 : Int) ≤ (k : Int) := by omega
        generalize V[k] = x at *
        have HZ := hid (below_class (wb := wr) (Nat.le_refl wr.heap.size) fun z => HSI.out x hrl Aa Ab ca cb z.val (rdn hra z.ok) (rdn hrb z.ok))
        have j1 := fun z : BW wr.heap.size wr => (z.ok.cell (p := ⟨ba, k, none⟩) hba).trans hca
        have j2 := fun z : BW wr.heap.size wr => (z.ok.cell (p := ⟨bb, k, none⟩) hbb).trans hcb
        clear hra hrb hca hcb hrl hkV hba hbb
        go_upto_region 10 with (fail)
        refine region_below (by kernel_rfl) (by kernel_rfl) (Below.refl wr.heap.size wr) ?_
        repeat (go_big_quiet_step (first | (go_at_call 30; with_reducible exact (HZ.out _))))
        refine wpQuiet_nil ?_
        intro _ hw'
        obtain ⟨u, rfl⟩ := hw'
        have HU := hid u.ok
        clear j1 j2
        go_wp2_with fail
        go_roundw
        case rel => exact ⟨k + 1, by omega, by go_num, hid (bnext0 hB.out HU.out)⟩
        case measure => simp [intOf]; omega
      · obtain rfl : k = m := by omega
        have HB5 := hid (bnext HB4.out hB.out)
        go_wp2_with (first | (go_at_call 11; refine (HWK.out _).mono ?_; rintro e w6 ⟨rfl, hb6⟩; have HB6 := hid (bnext HB5.out hb6); clear hb6))
        go_ret
        exact ⟨rfl, HB1.out.trans (HB6.out.mono HB1.out.size)⟩
end Go.Proofs.Ytfkcpcdndleboaa
