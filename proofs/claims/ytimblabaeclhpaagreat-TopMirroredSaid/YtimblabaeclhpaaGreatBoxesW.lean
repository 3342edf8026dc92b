/- WALK: the boxes of all groups on a page (printed by gen_boxesw.py). -/
import Derived.Test.YtimblabaeclhpaaGreatBoxN
import Derived.Test.YtimblabaeclhpaaGreatGen
namespace Go.Proofs.YtimblabaeclhpaaGreat
open Go.RowKit
/-- A row that grows, all else is as it was. -/
structure Grew (W : World) (s : Value) (w' : World) (s' : Value) : Prop where
  gr : W.grownBy w' s.ownBlock
  nw : ∀ q, s'.ownBlock = some q → s.ownBlock = some q ∨ W.heap.size ≤ q
theorem Grew.refl (W : World) (s : Value) : Grew W s W s := ⟨World.grownBy.refl _ _, fun _ hq => .inl hq⟩
theorem Grew.next {W w1 w2 : World} {s s1 s2 : Value} (h1 : Grew W s w1 s1) (h2 : Grew w1 s1 w2 s2) : Grew W s w2 s2 := by
  have z1 := h1.gr.size; have z2 := h2.gr.size
  refine ⟨⟨h2.gr.os.trans h1.gr.os, h2.gr.tape.trans h1.gr.tape, h2.gr.output.trans h1.gr.output, Nat.le_trans z1 z2, fun k hk hne => ?_⟩, fun q hq => ?_⟩
  · refine (h2.gr.block k (by omega) fun e => ?_).trans (h1.gr.block k hk hne)
    rcases h1.nw k e.symm with h | h
    · exact hne h.symm
    · omega
  · rcases h2.nw q hq with h | h
    · exact h1.nw q h
    · exact .inr (by omega)
theorem Grew.pre {W W1 w2 : World} {s s2 : Value} (hb : Below W.heap.size W W1) (h : Grew W1 s w2 s2) : Grew W s w2 s2 := ⟨grown_pre hb h.gr, fun q hq => (h.nw q hq).imp id (Nat.le_trans hb.size)⟩
theorem Grew.below {W W1 w2 : World} {s s1 : Value} (h : Grew W s W1 s1) (hb : Below W1.heap.size W1 w2) : Grew W s w2 s1 :=
  h.next ⟨⟨hb.os, hb.tape, hb.output, hb.size, fun k hk _ => hb.block k hk⟩, fun _ hq => .inl hq⟩
theorem Grew.block {W w' : World} {s s' : Value} (h : Grew W s w' s') {b : Nat} (hb : b < W.heap.size) (hne : s.ownBlock ≠ some b) : w'.heap[b]? = W.heap[b]? := h.gr.block b hb fun e => hne e.symm
theorem Grew.cell {W w' : World} {s s' : Value} (h : Grew W s w' s') {b k : Nat} (hb : b < W.heap.size) (hne : s.ownBlock ≠ some b) : w'.cell? ⟨b, k, none⟩ = W.cell? ⟨b, k, none⟩ := World.cell?_of_block (a := ⟨b, k, none⟩) (h.block hb hne)
theorem far_blk {W : World} {b b' k : Nat} {v : Value} (hne : b' ≠ b) : (W.setCell ⟨b', k, none⟩ v).heap[b]? = W.heap[b]? := by
  simp [World.setCell, Array.getElem?_modify, hne]
theorem flat5_get : ∀ (L : List Spot) (k j : Nat) (hk : k < L.length), j < 5 → (flat5 L)[k * 5 + j]? = (spQ L[k])[j]?
  | g :: L, 0, j, _, hj => by
    unfold flat5
    rw [List.flatMap_cons, List.getElem?_append_left (by unfold spQ; simp; omega)]
    simp
  | g :: L, k + 1, j, hk, hj => by
    have ih := flat5_get L k j (by simpa using hk) hj
    unfold flat5 at ih ⊢
    rw [List.flatMap_cons, List.getElem?_append_right (by unfold spQ; simp; omega), List.getElem_cons_succ, ← ih]
    congr 1
    unfold spQ
    simp
    omega
theorem Tryz.underBoxes : Tryz.prog.underlying 36 = some (.slice 44) := by kernel_rfl
theorem Tryz.infoBox : (Tryz.prog.info? 44).map (fun i => (i.zero, i.size, i.bytes)) = some (some (.agg #[.int .i64 0, .int .i64 0, .int .i64 0, .bool false, .int .i64 0, .int .i64 0, .int .i64 0, .int .i64 0, .int .i64 0, .int .i64 0, .int .i64 0, .int .i64 0, .int .i64 0, .int .i64 0, .int .i64 0]), 15, 120) := by kernel_rfl
theorem Tryz.xalFrac {g : Array Edge} {t : TypeId} {p : String} : XAl Tryz.prog { dst := some 10, op := Op.alloc 42, type := t, pos := p, after := g, guard := none } (.cells #[.int .i64 0, .int .i64 0] 42 (0, 0)) := ⟨rfl, fun a w => by simp [go_sem]⟩
theorem Tryz.xalFrac2 {g : Array Edge} {t : TypeId} {p : String} : XAl Tryz.prog { dst := some 11, op := Op.alloc 42, type := t, pos := p, after := g, guard := none } (.cells #[.int .i64 0, .int .i64 0] 42 (0, 0)) := ⟨rfl, fun a w => by simp [go_sem]⟩
set_option maxRecDepth 100000 in
set_option maxHeartbeats 16000000 in
theorem boxes_any (P : Int) (ss : List Sg) (l : List Nd) (rows : Bool) (hp : Pln P ss l) (hsl : ss.length ≤ 1000000) (hsv : ∀ s ∈ ss, s.vals.length ≤ 1000000 ∧ s.vals.length ≤ s.vc) (way len : Int) (hw1 : 1 ≤ way) (hw4 : way ≤ 4) (hl0 : 0 ≤ len) (hl1 : len ≤ 4800) (A A2 : Option Addr) (c c2 : Nat) (w : World) (rs : Sgs w w.heap.size A ss) (rn : Nds w w.heap.size A2 l) :
    Calls Tryz.prog 20 #[.agg #[.int .i64 P, .slice A ss.length c, .slice A2 l.length c2, .bool rows], .agg #[.int .i64 way, .int .i64 len]] w fun e w' => ∃ v, e = .returned v ∧ w'.ownsRow w.heap.size 44 15 v (layBx ss l rows way len).length (flatB (layBx ss l rows way len)) ∧ Below w.heap.size w w' := by
  have hn := hp.len
  obtain ⟨w1, hw1'⟩ : ∃ w1, w1 = (w.alloc (.cells #[.int .i64 P, .slice A ss.length c, .slice A2 l.length c2, .bool rows] 69)).alloc (.cells #[.int .i64 way, .int .i64 len] 40) := ⟨_, rfl⟩
  have hb1 : Below w.heap.size w w1 := by rw [hw1']; exact ((Below.refl _ _).alloc (Nat.le_refl _) _).alloc (by simp) _
  have hz1 : w1.heap.size = w.heap.size + 2 := by rw [hw1']; simp
  have g0 : w1.heap[w.heap.size]? = some (.cells #[.int .i64 P, .slice A ss.length c, .slice A2 l.length c2, .bool rows] 69 (0, 0)) := by rw [hw1']; exact old_blk (nw_blk rfl)
  have g1 : w1.heap[w.heap.size + 1]? = some (.cells #[.int .i64 way, .int .i64 len] 40 (0, 0)) := by rw [hw1']; exact nw_blk (by simp)
  -- what is known of a world in which two blocks are as they were
  have HCB := hid fun (W : World) (h0 : W.heap[w.heap.size]? = w1.heap[w.heap.size]?) (h1 : W.heap[w.heap.size + 1]? = w1.heap[w.heap.size + 1]?) => (show ((W.cell? ⟨w.heap.size, 0, none⟩ = some (.int .i64 P) ∧ W.cell? ⟨w.heap.size, 1, none⟩ = some (.slice A ss.length c)) ∧ W.cell? ⟨w.heap.size, 2, none⟩ = some (.slice A2 l.length c2) ∧ W.cell? ⟨w.heap.size, 3, none⟩ = some (.bool rows)) ∧ W.cell? ⟨w.heap.size + 1, 0, none⟩ = some (.int .i64 way) ∧ W.cell? ⟨w.heap.size + 1, 1, none⟩ = some (.int .i64 len) from by
    rw [g0] at h0
    rw [g1] at h1
    refine ⟨⟨⟨?_, ?_⟩, ?_, ?_⟩, ?_, ?_⟩ <;> simp [World.cell?, h0, h1])
  have HC := hid fun (W : World) (h : Below w1.heap.size w1 W) => HCB.out W (h.block _ (by omega)) (h.block _ (by omega))
  have HRN := hid fun (W : World) (h : Below w1.heap.size w1 W) => (show Nds W W.heap.size A2 l from Reads.more (rn.below (hb1.trans (h.mono hb1.size))) (Nat.le_trans hb1.size h.size))
  have HRS := hid fun (W : World) (h : Below w1.heap.size w1 W) => (show Sgs W W.heap.size A ss from (rs.below (hb1.trans (h.mono hb1.size))).more (Nat.le_trans hb1.size h.size))
  have HGR := hid (groups_any P ss l rows hp hsl hsv len hl0 hl1 A A2 c c2 w1 (HRS.out w1 (Below.refl _ _)) (HRN.out w1 (Below.refl _ _)))
  have HAL := hid fun (k : Nat) (hk : k < l.length) (ln a : Int) (W : World) (h : Below w1.heap.size w1 W) => along_any P ss l rows hp hsl hsv k hk ln a A A2 c c2 W (HRS.out W h) (HRN.out W h)
  have HFG := hid fun (k : Nat) (hk : k < l.length) (W : World) (h : Below w1.heap.size w1 W) => (figure_any P ss l rows hp hsl hsv l.length k hk (by omega) A A2 c c2 W (HRS.out W h) (HRN.out W h)).mono fun (e : Ending) (w' : World) ⟨v, e1, e2, e3⟩ =>
    (show ∃ v : Value, e = Ending.returned v ∧ PutC w' v (spotsN ss l rows l.length k) (spn l k) (20000000000 * (1000 - (l.length : Int))) ∧ Below W.heap.size W w' from ⟨v, e1, fig_put hp (ok := newB W.heap.size w') (fun b h => h.2) l.length k hk (by omega) v e2, e3⟩)
  have HGJ := hid fun (j : Nat) (hj : j < (grpL ss l rows len).length) => (show ∃ (k : Nat) (cc : Int × Int), (∀ i : Nat, i < 5 → (flatG (grpL ss l rows len))[j * 5 + i]? = ([.int .i64 k, .int .i64 (gS ss l rows k).n, .int .i64 (gS ss l rows k).d, .int .i64 cc.1, .int .i64 cc.2] : List Value)[i]?) ∧ k < l.length ∧ ((0 ≤ cc.1 ∧ cc.1 ≤ 200) ∧ 0 ≤ cc.2 ∧ cc.2 ≤ 4800) ∧ ScOk (gS ss l rows k) ∧
      MidOk (gS ss l rows k) cc.1 (gCr ss l rows k) (gX ss l rows k) ∧ boxJ ss l rows way len (j + 1) = boxJ ss l rows way len j ++ (spotsN ss l rows l.length k 0 0).map (fun p => boxOf way rows (gS ss l rows k) cc (gCr ss l rows k) (nd l p.node) p) ∧
      (∀ p ∈ spotsN ss l rows l.length k 0 0, RawOk rows (gS ss l rows k) cc (gCr ss l rows k) p ∧ p.node < l.length) ∧ ((spotsN ss l rows l.length k 0 0).length ≤ 200 ∧ spn l k ≤ 200) from by
    obtain ⟨k, cc, e, hk, hc1, hc2⟩ := grpL_ok hp hl0 hl1 hj
    have hcr := gCr_ok (rows := rows) hp hk
    have hsp := spots_len (rows := rows) hp l.length k hk (by omega) 0 0
    have hs2 : spn l k ≤ 200 := by unfold spn; have := endOf_le hk; omega
    refine ⟨k, cc, fun i hi => by rw [flatG_get _ j i hj hi, e]; rfl, hk, ⟨hc1, hc2⟩, gS_ok hp hk, mid_ok (gS_ok hp hk) hc1.1 hc1.2 (by omega) hcr.2.2, ?_, fun p hpm => ⟨raw_ok hp hk hc1.1 hc1.2 hc2.1 hc2.2 hpm, spot_nd hp hk hpm⟩, by omega, hs2⟩
    rw [boxJ_s hj, e]
    rfl)
  have HBL := hid fun (j : Nat) (hj : j ≤ (grpL ss l rows len).length) => (show (boxJ ss l rows way len j).length ≤ 50000 from by
    have h := boxJ_len (rows := rows) (way := way) hp hl0 hl1 j hj
    have h2 : (grpL ss l rows len).length = (kidsOf l (-1)).length := grpL_len
    have h3 := kidsOf_len (l := l) (node := -1) (by omega)
    omega)
  have HBE := hid (boxJ_end (ss := ss) (l := l) (rows := rows) (way := way) (len := len))
  have hgl : (grpL ss l rows len).length ≤ 200 := by
    have h2 : (grpL ss l rows len).length = (kidsOf l (-1)).length := grpL_len
    have h3 := kidsOf_len (l := l) (node := -1) (by omega)
    omega
  have HFL := hid (flatG_len (grpL ss l rows len))
  have HND := hid fun (hn0 : 0 < l.length) => (show ∃ b o, A2 = some ⟨b, o, none⟩ ∧ b < w.heap.size ∧ ∀ (k : Nat) (hk : k < l.length) (W : World), W.heap[b]? = w1.heap[b]? → NdAt W b (o + k * 8) (nd l k) from by
    obtain ⟨b, o, e, hbB, hc⟩ := rn.at hn0
    refine ⟨b, o, e, hbB, fun k hk W hW => ?_⟩
    have h := (hc k hk).below hb1 hbB
    rw [← nd_at hk] at h
    have hcell : ∀ q : Nat, W.cell? ⟨b, q, none⟩ = w1.cell? ⟨b, q, none⟩ := fun q => World.cell?_of_block (a := ⟨b, q, none⟩) hW
    exact ⟨(hcell _).trans h.kind, (hcell _).trans h.depth, (hcell _).trans h.sign, (hcell _).trans h.turn, (hcell _).trans h.mir, (hcell _).trans h.state, (hcell _).trans h.mn, (hcell _).trans h.mx⟩)
  obtain ⟨m, hm⟩ : ∃ m, m = (grpL ss l rows len).length := ⟨_, rfl⟩
  obtain ⟨n, hnn⟩ : ∃ n, n = l.length := ⟨_, rfl⟩
  obtain ⟨N, hN⟩ : ∃ N, N = ss.length := ⟨_, rfl⟩
  have hway := hw1
  rw [← hm] at HGR HGJ HBL HBE HFL hgl
  rw [← hnn] at HGR HAL HFG HCB HC HND HGJ hw1' hn
  rw [← hnn]
  rw [← hN] at HGR HAL HFG HCB HC hw1'
  rw [← hN]
  have HGJ := hid fun j hj => (HGJ.out j hj)
  have HW1 := hid hw1'; have HB1 := hid hb1; have HZ1 := hid hz1; have HNN := hid hnn
  clear hw1' hb1 rs rn hnn hN hm hz1 g0 g1 HRN HRS hp hsv hsl
  go_enter Tryz.func20, Tryz.ntmps20
  go_upto_region 1 with (fail)
  rw [← HW1.out]
  clear HW1
  obtain ⟨B0, hB0⟩ : ∃ B0, B0 = w.heap.size := ⟨_, rfl⟩
  obtain ⟨B1, hB1⟩ : ∃ B1, B1 = B0 + 1 := ⟨_, rfl⟩
  rw [← hB0] at HC HCB HZ1
  rw [← hB1] at HC HCB
  rw [← hB0]
  try rw [← hB1]
  have HB0 := hid hB0; have HBB := hid hB1
  clear hB0 hB1
  obtain ⟨⟨⟨p0, p1⟩, p2, p3⟩, p4, p5⟩ := HC.out w1 (Below.refl _ _)
  go_wp2_with (first | (go_at_call 35; refine HGR.out.mono ?_; rintro e w2 ⟨v2, rfl, ho2, hb2⟩; obtain ⟨A3, c3, rfl⟩ := own_slice ho2; have HO2 := hid ho2; have HB2 := hid hb2; clear ho2 hb2 p0 p1 p2 p3 p4 p5))
  have HRD := hid fun (hm0 : 0 < m) => (show ∃ bg og, A3 = some ⟨bg, og, none⟩ ∧ bg < w2.heap.size ∧ ∀ j u, (flatG (grpL ss l rows len))[j]? = some u → w2.cell? ⟨bg, og + j, none⟩ = some u from Reads.at0 (Reads.of_own HO2.out) hm0 (by have := HFL.out; omega))
  clear HO2 HGR
  go_loopw [5, 21] (fun v iv wr => ∃ j : Nat, j ≤ m ∧ iv = .int .i64 j ∧ Hid (wr.ownsRow w2.heap.size 44 15 v (boxJ ss l rows way len j).length (flatB (boxJ ss l rows way len j))) ∧ Hid (Below w2.heap.size w2 wr)) (fun _ iv _ => m - (intOf iv).toNat)
  case atStart => exact ⟨0, by omega, rfl, hid (by rw [boxJ_0]; exact World.ownsRow_nil _ _ _ _), hid (Below.refl _ _)⟩
  case round =>
    obtain ⟨j, hj, rfl, hO, hB⟩ := hrel
    have HBW := hid (show Below w1.heap.size w1 wr from bnext0 HB2.out hB.out)
    by_cases hjm : j < m
    · obtain ⟨k, cc, hgc, hk, ⟨hc1, hc2⟩, hsc, hmid, hbs, hraw, hsl1, hsl2⟩ := HGJ.out j hjm
      obtain ⟨bg, og, rfl, hbg, hcg⟩ := HRD.out (by omega)
      have hgg := fun (i : Nat) (hi : i < 5) (u : Value) (hu : ([.int .i64 k, .int .i64 (gS ss l rows k).n, .int .i64 (gS ss l rows k).d, .int .i64 cc.1, .int .i64 cc.2] : List Value)[i]? = some u) => (hB.out.cell (p := ⟨bg, og + (j * 5 + i), none⟩) hbg).trans (hcg (j * 5 + i) u ((hgc i hi).trans hu))
      have d0 := hgg 0 (by omega) _ rfl
      have d1 := hgg 1 (by omega) _ rfl
      have d2 := hgg 2 (by omega) _ rfl
      have d3 := hgg 3 (by omega) _ rfl
      have d4 := hgg 4 (by omega) _ rfl
      simp only [Nat.add_zero, ← Nat.add_assoc] at d0 d1 d2 d3 d4
      have HA1 := hid fun (W : World) (h : Below w1.heap.size w1 W) => HAL.out k hk cc.1 cc.2 W h
      have HF1 := hid fun (W : World) (h : Below w1.heap.size w1 W) => HFG.out k hk W h
      clear hgg hgc hcg
      obtain ⟨ln, at_⟩ := cc
      simp only [] at hc1 hc2 hmid hbs hraw d3 d4 HA1
      obtain ⟨l0, l1⟩ := hc1
      obtain ⟨a0, a1⟩ := hc2
      have HRAW := hid fun p hp => (hraw p hp)
      have HBSJ := hid hbs
      clear hraw hbs
      generalize spotsN ss l rows n k = S at HF1 HRAW HBSJ hsl1
      generalize spn l k = sn at HF1 hsl2
      have HWA := hid fun W : World => wholeP_any at_ W
      have HWB := hid fun W : World => wholeP_any (72 * ln) W
      have HWC := hid fun W : World => wholeP_any 48 W
      have HSU := hid fun W : World => subP_any (whF 48) (gX ss l rows k) hmid.m1 W
      have HTI := hid fun W : World => timesP_any ((whF 48).sub (gX ss l rows k)) 1 2 hmid.m2.d0 hmid.m2.d1 hmid.m2.n1 (by decide) (by decide) (by decide) W
      have HAD := hid fun W : World => addP_any (whF (72 * ln)) (((whF 48).sub (gX ss l rows k)).times 1 2) hmid.m3 W
      rw [hmid.eq] at HAD
      have hwr : IntKind.i64.wrap (72 * ln) = 72 * ln := wrapI (by omega) (by omega)
      generalize ((whF 48).sub (gX ss l rows k)).times 1 2 = f3 at HTI HAD
      generalize (whF 48).sub (gX ss l rows k) = f2 at HSU HTI
      have HSC := hid hsc
      clear hmid hsc
      generalize whF 48 = f48 at HWC HSU
      generalize whF (72 * ln) = f1 at HWB HAD
      generalize gX ss l rows k = gx at *
      generalize gL ss l rows k = gl at *
      generalize gCr ss l rows k = cr at *
      generalize gS ss l rows k = s at *
      have HX7 := hid (show Below w1.heap.size w1 (wr.alloc (.cells #[.int .i64 k, .int .i64 s.n, .int .i64 s.d, .int .i64 ln, .int .i64 at_] 103)) from HBW.out.alloc HBW.out.size _)
      obtain ⟨⟨⟨p0, p1⟩, p2, p3⟩, p4, p5⟩ := HC.out _ HX7.out
      have q0 : (j : Int) < (m : Int) := by omega
      go_upto_region 6 with (first | (go_at_call 36; refine (HA1.out _ HX7.out).mono ?_; rintro e w4 ⟨rfl, hb4⟩; have HB4 := hid hb4; clear hb4 p0 p1 p2 p3 p4 p5))
      clear d0 d1 d2 d3 d4
      obtain ⟨b7, hb7⟩ : ∃ b7, b7 = wr.heap.size := ⟨_, rfl⟩
      obtain ⟨b9, hb9⟩ : ∃ b9, b9 = w4.heap.size + 1 := ⟨_, rfl⟩
      obtain ⟨w5, hw5⟩ : ∃ w5, w5 = (w4.alloc (.cells #[.int .i64 gl.n, .int .i64 gl.d] 42)).alloc (.cells #[.int .i64 gx.n, .int .i64 gx.d] 42) := ⟨_, rfl⟩
      have hg4 : GpB w4 b7 ⟨k, s, (ln, at_)⟩ := GpB.below (W := wr.alloc (.cells #[.int .i64 k, .int .i64 s.n, .int .i64 s.d, .int .i64 ln, .int .i64 at_] 103)) (by rw [hb7]; exact nw_blk rfl) HB4.out
      have hx4 : Below wr.heap.size wr w4 := ((Below.refl wr.heap.size wr).alloc (Nat.le_refl _) _).trans (HB4.out.mono (by simp))
      have HG5 := hid (show GpB w5 b7 ⟨k, s, (ln, at_)⟩ by rw [hw5]; exact old_blk (old_blk hg4))
      have HF5 := hid (show FrB w5 b9 gx by rw [hw5, hb9]; exact nw_blk (by simp))
      have HR5 := hid (show Below wr.heap.size wr w5 by rw [hw5]; exact (hx4.alloc hx4.size _).alloc (by have := hx4.size; simp; omega) _)
      have h7 : wr.heap.size ≤ b7 := by omega
      rw [← hw5]
      try rw [← hb9]
      try rw [← hb7]
      have HB7 := hid hb7
      clear hw5 hg4 hx4 hb9 hb7 HX7 HB4 HA1
      refine region_al2 116 [0, 1, 2, 3, 4, 5, 6, 7, 8, 9, 10, 11] 12 13 [14, 15] 10 11 _ _ (.cells #[.int .i64 0, .int .i64 0] 42 (0, 0)) (.cells #[.int .i64 0, .int .i64 0] 42 (0, 0)) (w0 := w5) (by kernel_rfl) (by kernel_rfl) rfl (Below.refl _ _) rfl rfl rfl rfl (by decide) Tryz.xalFrac Tryz.xalFrac2 ?_
      apply Exists.intro
      refine ⟨?hq, ?ht⟩
      case hq =>
        intro wb hwb
        have k := (HG5.out.below hwb).cells
        have HGB := hid (HG5.out.below hwb); have HFB := hid (HF5.out.below hwb)
        have cz := fun z : BW wb.heap.size wb => (HGB.out.below z.ok).cells
        have k3 := fun z => (cz z).k3
        have k4 := fun z => (cz z).k4
        have cy := fun z : BW wb.heap.size wb => (HFB.out.below z.ok).cells
        have k5 := fun z => (cy z).1.1
        have k6 := fun z => (cy z).1.2
        clear cz cy k
        have HZA := hid (below_class (wb := wb) (Nat.le_refl wb.heap.size) fun z => HWA.out z.val)
        have HZB := hid (below_class (wb := wb) (Nat.le_refl wb.heap.size) fun z => HWB.out z.val)
        have HZC := hid (below_class (wb := wb) (Nat.le_refl wb.heap.size) fun z => HWC.out z.val)
        have HZD := hid (below_class (wb := wb) (Nat.le_refl wb.heap.size) fun z => HSU.out z.val)
        have HZE := hid (below_class (wb := wb) (Nat.le_refl wb.heap.size) fun z => HTI.out z.val)
        have HZF := hid (below_class (wb := wb) (Nat.le_refl wb.heap.size) fun z => HAD.out z.val)
        simp only [List.map_cons, List.map_nil, List.getD_cons_zero, List.getD_cons_succ]
        repeat (go_big_quiet_step (first | (go_at_call 37; with_reducible exact (HZA.out _)) | (go_at_call 37; with_reducible exact (HZB.out _)) | (go_at_call 37; with_reducible exact (HZC.out _)) | (go_at_call 40; with_reducible exact (HZD.out _)) | (go_at_call 39; with_reducible exact (HZE.out _)) | (go_at_call 38; with_reducible exact (HZF.out _))))
        refine wpQuiet_nil ?_
        exact rfl
      case ht =>
        intro b10 b11 w6 hp hq hpq hz1 hz2 hb6
        clear HWA HWB HWC HSU HTI HAD hwr
        simp only [List.map_cons, List.map_nil, List.getD_cons_zero, List.getD_cons_succ]
        have hy1 : FrB w6 b10 ⟨0, 0⟩ := hz1
        have hy2 : FrB w6 b11 ⟨0, 0⟩ := hz2
        have HY1 := hid hy1; have HY2 := hid hy2; have HB6 := hid hb6
        obtain ⟨⟨j1, j2⟩, ⟨j3, j4⟩, _⟩ := hy1.cells
        obtain ⟨⟨j5, j6⟩, ⟨j7, j8⟩, _⟩ := hy2.cells
        have hq10 : wr.heap.size ≤ b10 := by have := HR5.out.size; omega
        have hq11 : wr.heap.size ≤ b11 := by have := HR5.out.size; omega
        have HG6 := hid (HG5.out.below hb6)
        have h710 : b10 ≠ b7 := by have := lt_of_block HG5.out; omega
        have h711 : b11 ≠ b7 := by have := lt_of_block HG5.out; omega
        clear hz1 hz2 hb6 hy1 hy2
        go_upto_region 7 with (fail)
        clear j1 j2 j3 j4 j5 j6 j7 j8
        obtain ⟨w7, hw7⟩ : ∃ w7, w7 = (((w6.setCell ⟨b10, 0, none⟩ (.int .i64 (whF at_).n)).setCell ⟨b10, 1, none⟩ (.int .i64 (whF at_).d)).setCell ⟨b11, 0, none⟩ (.int .i64 (midF s ln cr).n)).setCell ⟨b11, 1, none⟩ (.int .i64 (midF s ln cr).d) := ⟨_, rfl⟩
        have hfx : FrB w7 b10 (whF at_) := by rw [hw7]; exact ((HY1.out.set (g := whF at_)).far (Ne.symm hpq)).far (Ne.symm hpq)
        have hfy : FrB w7 b11 (midF s ln cr) := by rw [hw7]; exact ((HY2.out.far hpq).far hpq).set (g := midF s ln cr)
        have hb7' : Below wr.heap.size wr w7 := by rw [hw7]; exact ((((HR5.out.trans (HB6.out.mono HR5.out.size)).setCell hq10 _).setCell hq10 _).setCell hq11 _).setCell hq11 _
        have hg7 : GpB w7 b7 ⟨k, s, (ln, at_)⟩ := by rw [hw7]; exact (((HG6.out.far h710).far h710).far h711).far h711
        rw [← hw7]
        have HFX := hid hfx; have HFY := hid hfy; have HB7' := hid hb7'; have HG7 := hid hg7
        clear hw7 hfx hfy hb7' hg7 HY1 HY2 HB6 HG6 HG5 HF5 HR5
        obtain ⟨⟨⟨p0, p1⟩, p2, p3⟩, p4, p5⟩ := HC.out w7 (bnext0 HBW.out HB7'.out)
        go_upto_if 45 with (fail)
        clear p0 p1 p2 p3 p4 p5
        go_cut [10] (fun s10 wx => s10 = .pointer (some ⟨b10, 0, none⟩) ∧ Hid (FrB wx b10 (fX0 rows s (ln, at_) cr)) ∧ Hid (FrB wx b11 (fY0 rows s (ln, at_) cr)) ∧ Hid (Below wr.heap.size wr wx) ∧ Hid (GpB wx b7 ⟨k, s, (ln, at_)⟩))
        case first =>
          obtain ⟨⟨j1, j2⟩, ⟨j3, j4⟩, _⟩ := HFX.out.cells
          obtain ⟨⟨j5, j6⟩, ⟨j7, j8⟩, _⟩ := HFY.out.cells
          cases rows with
          | true =>
            go_wp2_with fail
            go_meet
            exact ⟨rfl, HFX, HFY, HB7', HG7⟩
          | false =>
            go_wp2_with fail
            go_meet
            exact ⟨rfl, hid (((HFX.out.set (g := midF s ln cr)).far (Ne.symm hpq)).far (Ne.symm hpq)), hid (((HFY.out.far hpq).far hpq).set (g := whF at_)), hid ((((HB7'.out.setCell hq10 _).setCell hq10 _).setCell hq11 _).setCell hq11 _), hid ((((HG7.out.far h710).far h710).far h711).far h711)⟩
        obtain ⟨rfl, HX8, HY8, HR8, HG8⟩ := hcut
        clear HFX HFY HB7' HG7
        have HXC := hid (bnext0 HBW.out HR8.out)
        obtain ⟨⟨⟨p0, p1⟩, p2, p3⟩, p4, p5⟩ := HC.out wc HXC.out
        have k0 := HG8.out.cells.k0
        have hMM : (0 : Int) ≤ 20000000000 * (1000 - (n : Int)) := by omega
        go_wp2_with (first | (go_at_call 41; refine (HF1.out wc HXC.out).mono ?_; rintro e w8 ⟨v8, rfl, hput, hb8⟩; obtain ⟨T, r, K, rfl, hmt, hft, hcc⟩ := hput; have hm2 := hmt 295; have HB8 := hid hb8; have HPU := hid (hcc w8 (Below.refl _ _) w8.heap.size (.slice none 0 0) [] 0 0 0 0 rfl rfl (by decide) hMM (by decide) hMM (Nat.le_refl _) (Nat.le_refl _) (World.ownsRow_nil _ _ _ _) (by simp; omega)); clear hb8 hcc hmt p0 p1 p2 p3 p4 p5 k0) | (refine HPU.out.mono ?_; rintro e w9 ⟨s9, rfl, hp9⟩; rw [List.nil_append] at hp9; obtain ⟨A9, c9, rfl⟩ := own_slice hp9.own; have HP9 := hid hp9; clear hp9))
        obtain ⟨np, hnp⟩ : ∃ np, np = (S 0 0).length := ⟨_, rfl⟩
        have h9 := HP9.out.bel (L := []) (World.ownsRow_nil _ _ _ _) (Nat.le_refl _)
        have hr9 : Below wr.heap.size wr w9 := (HR8.out.trans (HB8.out.mono HR8.out.size)).trans (h9.mono (by have := HR8.out.size; have := HB8.out.size; omega))
        have hX9 : FrB w9 b10 (fX0 rows s (ln, at_) cr) := (HX8.out.below HB8.out).below h9
        have hY9 : FrB w9 b11 (fY0 rows s (ln, at_) cr) := (HY8.out.below HB8.out).below h9
        have hG9 : GpB w9 b7 ⟨k, s, (ln, at_)⟩ := (HG8.out.below HB8.out).below h9
        have hw9 : Below w1.heap.size w1 w9 := bnext0 HBW.out hr9
        have hsp : ∀ q, q < np → ∃ g9, A9 = some ⟨g9, 0, none⟩ ∧ wr.heap.size ≤ g9 ∧ g9 < w9.heap.size ∧ ∀ i u, (flat5 (S 0 0))[i]? = some u → w9.cell? ⟨g9, i, none⟩ = some u := fun q hq => by
          obtain ⟨g9, cq, e, hg1, hg2⟩ := own_some HP9.out.own (by omega)
          injection e with e1 e2 e3
          refine ⟨g9, e1, by have := HR8.out.size; have := HB8.out.size; omega, hg2, fun i u hu => ?_⟩
          have h := HP9.out.own.cells (g := g9) (by rw [e1]; rfl) i u hu
          rwa [Addr.add_lit, Nat.zero_add] at h
        have HKB := hid fun (W : World) (v : Value) (h : Grew w9 u5 W v) (b : Nat) (hb : b < w9.heap.size) (h2 : b < w2.heap.size ∨ wr.heap.size ≤ b) => (show W.heap[b]? = w9.heap[b]? from h.block hb fun e => by have := hO.out.lt b e; omega)
        have HOW9 := hid (own_keep hO.out hr9)
        have HB29 := hid (show Below w2.heap.size w2 w9 from bnext0 hB.out hr9)
        rw [← hnp]
        have HSP := hid hsp; have HR9 := hid hr9; have HX9 := hid hX9; have HY9 := hid hY9; have HG9 := hid hG9; have HW9 := hid hw9
        have hnp2 : np ≤ 200 := by omega
        have HNP := hid hnp
        clear h9 hr9 hX9 hY9 hG9 hw9 hsp hnp hm2 hft HPU HB8 HP9 HX8 HY8 HR8 HG8 HXC HF1
        obtain ⟨wo, hwo⟩ : ∃ wo, wo = wr := ⟨_, rfl⟩
        subst hwo
        go_loopw [5, 54] (fun v iv wq => ∃ q : Nat, q ≤ np ∧ iv = .int .i64 q ∧ Hid (wq.ownsRow w2.heap.size 44 15 v (boxJ ss l rows way len j ++ ((S 0 0).take q).map (fun p => boxOf way rows s (ln, at_) cr (nd l p.node) p)).length (flatB (boxJ ss l rows way len j ++ ((S 0 0).take q).map (fun p => boxOf way rows s (ln, at_) cr (nd l p.node) p)))) ∧ Hid (Grew w9 u5 wq v)) (fun _ iv _ => np - (intOf iv).toNat)
        case atStart => exact ⟨0, by omega, rfl, hid (by rw [List.take_zero, List.map_nil, List.append_nil]; exact HOW9.out), hid (Grew.refl _ _)⟩
        case round =>
          obtain ⟨q, hqn, rfl, hO2, hGR⟩ := hrel
          by_cases hqm : q < np
          · have hql : q < (S 0 0).length := by rw [← HNP.out]; exact hqm
            obtain ⟨g9, rfl, hg1, hg2, hcs⟩ := HSP.out q hqm
            obtain ⟨hrw, hpn⟩ := HRAW.out _ (List.getElem_mem hql)
            obtain ⟨bn, on, rfl, hbn, hnd⟩ := HND.out (by omega)
            have hz := HZ1.out; have hz0 := HB0.out; have hzz := HBB.out; have hz2 := HB2.out.size; have hzr := hB.out.size
            have keep := HKB.out wr _ hGR.out
            have hbx : FrB wr b10 (fX0 rows s (ln, at_) cr) := (keep b10 (lt_of_block HX9.out) (.inr hq10)).trans HX9.out
            have hby : FrB wr b11 (fY0 rows s (ln, at_) cr) := (keep b11 (lt_of_block HY9.out) (.inr hq11)).trans HY9.out
            have hbg' : GpB wr b7 ⟨k, s, (ln, at_)⟩ := (keep b7 (lt_of_block HG9.out) (.inr h7)).trans HG9.out
            have hw9s := HW9.out.size
            have hlay := HCB.out wr ((keep B0 (by omega) (.inl (by omega))).trans (HW9.out.block _ (by omega))) ((keep B1 (by omega) (.inl (by omega))).trans (HW9.out.block _ (by omega)))
            have hnq := hnd ((S 0 0)[q]).node hpn wr ((keep bn (by omega) (.inl (by omega))).trans (HW9.out.block _ (by omega)))
            have hsc := fun (i : Nat) (hi : i < 5) (u : Value) (hu : (spQ (S 0 0)[q])[i]? = some u) => (World.cell?_of_block (a := ⟨g9, q * 5 + i, none⟩) (keep g9 hg2 (.inr hg1))).trans (hcs (q * 5 + i) u ((flat5_get (S 0 0) q i hql hi).trans hu))
            have e0 := hsc 0 (by omega) _ rfl
            have e1 := hsc 1 (by omega) _ rfl
            have e2 := hsc 2 (by omega) _ rfl
            have e3 := hsc 3 (by omega) _ rfl
            have e4 := hsc 4 (by omega) _ rfl
            rw [Nat.add_zero] at e0
            have htk : ((S 0 0).take (q + 1)).map (fun p => boxOf way rows s (ln, at_) cr (nd l p.node) p) = ((S 0 0).take q).map (fun p => boxOf way rows s (ln, at_) cr (nd l p.node) p) ++ [boxOf way rows s (ln, at_) cr (nd l ((S 0 0)[q]).node) (S 0 0)[q]] := by rw [take_s hql, List.map_append]; rfl
            rw [← raw_turn HSC.out] at htk
            have hraw : rawBox rows s (ln, at_) cr (nd l ((S 0 0)[q]).node) (S 0 0)[q] = ⟨nd l ((S 0 0)[q]).node, (fX0 rows s (ln, at_) cr).add (s.times (4 * ((S 0 0)[q]).x) 4), (fY0 rows s (ln, at_) cr).add (s.times (4 * ((S 0 0)[q]).y) 4), s.times (4 * ((S 0 0)[q]).w) 4, s.times (4 * ((S 0 0)[q]).h) 4⟩ := rfl
            have HTU := hid fun W : World => turned_any (rawBox rows s (ln, at_) cr (nd l ((S 0 0)[q]).node) (S 0 0)[q]) way len hw1 hw4 hrw.st W
            have htl : (boxJ ss l rows way len j ++ ((S 0 0).take q).map (fun p => boxOf way rows s (ln, at_) cr (nd l p.node) p)).length ≤ 60000 := by have := HBL.out j hj; rw [List.length_append, List.length_map, List.length_take]; omega
            have HTK := hid (show boxJ ss l rows way len j ++ ((S 0 0).take (q + 1)).map (fun p => boxOf way rows s (ln, at_) cr (nd l p.node) p) = (boxJ ss l rows way len j ++ ((S 0 0).take q).map (fun p => boxOf way rows s (ln, at_) cr (nd l p.node) p)) ++ [trnB way (rawBox rows s (ln, at_) cr (nd l ((S 0 0)[q]).node) (S 0 0)[q])] from by rw [htk, List.append_assoc])
            generalize hD2 : boxJ ss l rows way len j ++ ((S 0 0).take (q + 1)).map (fun p => boxOf way rows s (ln, at_) cr (nd l p.node) p) = D2 at HTK
            have HD2 := hid hD2
            clear hD2
            generalize boxJ ss l rows way len j ++ ((S 0 0).take q).map (fun p => boxOf way rows s (ln, at_) cr (nd l p.node) p) = D1 at HTK hO2 htl
            obtain ⟨rb, hrb⟩ : ∃ rb, rb = rawBox rows s (ln, at_) cr (nd l ((S 0 0)[q]).node) (S 0 0)[q] := ⟨_, rfl⟩
            rw [← hrb] at HTU HTK
            rw [← hrb] at hraw
            have HTL := hid htl
            have HT1 := hid fun W : World => timesP_any s (4 * ((S 0 0)[q]).x) 4 (frs_sc HSC.out).d0 (frs_sc HSC.out).d1 (frs_sc HSC.out).n1 (by have := hrw.bd.1.1; omega) (by decide) (by decide) W
            have HT2 := hid fun W : World => timesP_any s (4 * ((S 0 0)[q]).y) 4 (frs_sc HSC.out).d0 (frs_sc HSC.out).d1 (frs_sc HSC.out).n1 (by have := hrw.bd.1.2; omega) (by decide) (by decide) W
            have HT3 := hid fun W : World => timesP_any s (4 * ((S 0 0)[q]).w) 4 (frs_sc HSC.out).d0 (frs_sc HSC.out).d1 (frs_sc HSC.out).n1 (by have := hrw.bd.2.1; omega) (by decide) (by decide) W
            have HT4 := hid fun W : World => timesP_any s (4 * ((S 0 0)[q]).h) 4 (frs_sc HSC.out).d0 (frs_sc HSC.out).d1 (frs_sc HSC.out).n1 (by have := hrw.bd.2.2; omega) (by decide) (by decide) W
            have HA5 := hid fun W : World => addP_any (fX0 rows s (ln, at_) cr) (s.times (4 * ((S 0 0)[q]).x) 4) hrw.sx W
            have HA6 := hid fun W : World => addP_any (fY0 rows s (ln, at_) cr) (s.times (4 * ((S 0 0)[q]).y) 4) hrw.sy W
            generalize (fX0 rows s (ln, at_) cr).add (s.times (4 * ((S 0 0)[q]).x) 4) = fX at hraw HA5
            generalize (fY0 rows s (ln, at_) cr).add (s.times (4 * ((S 0 0)[q]).y) 4) = fY at hraw HA6
            generalize s.times (4 * ((S 0 0)[q]).x) 4 = tx at HT1 HA5
            generalize s.times (4 * ((S 0 0)[q]).y) 4 = ty at HT2 HA6
            generalize s.times (4 * ((S 0 0)[q]).w) 4 = tw at HT3 hraw
            generalize s.times (4 * ((S 0 0)[q]).h) 4 = th at HT4 hraw
            have HRB := hid hraw
            have HBX := hid hbx; have HBY := hid hby; have HBG := hid hbg'
            obtain ⟨⟨⟨p0, p1⟩, p2, p3⟩, p4, p5⟩ := hlay
            have v0 := hnq.kind; have v1 := hnq.depth; have v2 := hnq.sign; have v3 := hnq.turn; have v4 := hnq.mir; have v5 := hnq.state; have v6 := hnq.mn; have v7 := hnq.mx
            have g0 : (q : Int) < (np : Int) := by omega
            have g1 : ((((S 0 0)[q]).node : Nat) : Int) < (n : Int) := by omega
            clear htl htk hrb hsc hcs hnd keep hnq hraw hbx hby hbg' hrw hz hz0 hzz hz2 hzr hw9s
            generalize nd l ((S 0 0)[q]).node = gn at *
            have HSS := hid (rfl : (S 0 0)[q] = (S 0 0)[q])
            generalize (S 0 0)[q] = sp at *
            obtain ⟨spn', spx, spy, spw, sph⟩ := sp
            simp only [] at e0 e1 e2 e3 e4 v0 v1 v2 v3 v4 v5 v6 v7 g1 HT1 HT2 HT3 HT4 hpn
            generalize fX0 rows s (ln, at_) cr = fx at *
            generalize fY0 rows s (ln, at_) cr = fy at *
            have p2' := cell_old (o := .cells #[.int .i64 spn', .int .i64 (4 * spx), .int .i64 (4 * spy), .int .i64 (4 * spw), .int .i64 (4 * sph)] 115) p2
            have v0' := cell_old (o := .cells #[.int .i64 spn', .int .i64 (4 * spx), .int .i64 (4 * spy), .int .i64 (4 * spw), .int .i64 (4 * sph)] 115) v0
            have v1' := cell_old (o := .cells #[.int .i64 spn', .int .i64 (4 * spx), .int .i64 (4 * spy), .int .i64 (4 * spw), .int .i64 (4 * sph)] 115) v1
            have v2' := cell_old (o := .cells #[.int .i64 spn', .int .i64 (4 * spx), .int .i64 (4 * spy), .int .i64 (4 * spw), .int .i64 (4 * sph)] 115) v2
            have v3' := cell_old (o := .cells #[.int .i64 spn', .int .i64 (4 * spx), .int .i64 (4 * spy), .int .i64 (4 * spw), .int .i64 (4 * sph)] 115) v3
            have v4' := cell_old (o := .cells #[.int .i64 spn', .int .i64 (4 * spx), .int .i64 (4 * spy), .int .i64 (4 * spw), .int .i64 (4 * sph)] 115) v4
            have v5' := cell_old (o := .cells #[.int .i64 spn', .int .i64 (4 * spx), .int .i64 (4 * spy), .int .i64 (4 * spw), .int .i64 (4 * sph)] 115) v5
            have v6' := cell_old (o := .cells #[.int .i64 spn', .int .i64 (4 * spx), .int .i64 (4 * spy), .int .i64 (4 * spw), .int .i64 (4 * sph)] 115) v6
            have v7' := cell_old (o := .cells #[.int .i64 spn', .int .i64 (4 * spx), .int .i64 (4 * spy), .int .i64 (4 * spw), .int .i64 (4 * sph)] 115) v7
            go_upto_region 14 with (fail)
            obtain ⟨b13, hb13⟩ : ∃ b, b = wr.heap.size := ⟨_, rfl⟩
            obtain ⟨b15, hb15⟩ : ∃ b, b = wr.heap.size + 1 + 1 := ⟨_, rfl⟩
            obtain ⟨w10, hw10⟩ : ∃ w10, w10 = ((wr.alloc (.cells #[.int .i64 spn', .int .i64 (4 * spx), .int .i64 (4 * spy), .int .i64 (4 * spw), .int .i64 (4 * sph)] 115)).alloc (.cells #[.int .i64 gn.kind, .int .i64 gn.depth, .int .i64 gn.sign, .int .i64 gn.turn, .bool gn.mir, .int .i64 gn.state, .int .i64 gn.mn, .int .i64 gn.mx] 67)).alloc (.cells #[.int .i64 gn.kind, .int .i64 gn.sign, .int .i64 gn.turn, .bool gn.mir, .int .i64 gn.state, .int .i64 gn.mn, .int .i64 gn.mx, .int .i64 0, .int .i64 0, .int .i64 0, .int .i64 0, .int .i64 0, .int .i64 0, .int .i64 0, .int .i64 0] 44) := ⟨_, rfl⟩
            have hsp10 : w10.heap[b13]? = some (.cells #[.int .i64 spn', .int .i64 (4 * spx), .int .i64 (4 * spy), .int .i64 (4 * spw), .int .i64 (4 * sph)] 115 (0, 0)) := by rw [hw10, hb13]; exact old_blk (old_blk (nw_blk rfl))
            have hbx10 : BxB w10 b15 ⟨gn, ⟨0, 0⟩, ⟨0, 0⟩, ⟨0, 0⟩, ⟨0, 0⟩⟩ := by rw [hw10, hb15]; exact nw_blk (by simp)
            have hb10' : Below wr.heap.size wr w10 := by rw [hw10]; exact (((Below.refl _ _).alloc (Nat.le_refl _) _).alloc (by simp) _).alloc (by simp; omega) _
            have hx10 : FrB w10 b10 fx := HBX.out.below hb10'
            have hy10 : FrB w10 b11 fy := HBY.out.below hb10'
            have hg10 : GpB w10 b7 ⟨k, s, (ln, at_)⟩ := HBG.out.below hb10'
            have l1510 : b10 ≠ b15 := by have := lt_of_block HBX.out; omega
            have l1511 : b11 ≠ b15 := by have := lt_of_block HBY.out; omega
            have l157 : b7 ≠ b15 := by have := lt_of_block HBG.out; omega
            have l1513 : b13 ≠ b15 := by omega
            have hr15 : wr.heap.size ≤ b15 := by omega
            rw [← hw10]
            try rw [← hb15]
            try rw [← hb13]
            -- what the spot's box tells
            have HS4 := hid fun (W : World) (h : W.heap[b13]? = w10.heap[b13]?) => (show (W.cell? ⟨b13, 1, none⟩ = some (.int .i64 (4 * spx)) ∧ W.cell? ⟨b13, 2, none⟩ = some (.int .i64 (4 * spy))) ∧ W.cell? ⟨b13, 3, none⟩ = some (.int .i64 (4 * spw)) ∧ W.cell? ⟨b13, 4, none⟩ = some (.int .i64 (4 * sph)) from by
              rw [hsp10] at h
              refine ⟨⟨?_, ?_⟩, ?_, ?_⟩ <;> simp [World.cell?, h])
            have HSL := hid (lt_of_block hsp10)
            have HXA := hid hx10; have HYA := hid hy10; have HGA := hid hg10; have HBA := hid hbx10; have HRA := hid hb10'
            have HPG := hid (And.intro p4 p5)
            have hB1w := block_lt_of_cell p4
            clear hw10 hb13 hb15 hsp10 hbx10 hb10' hx10 hy10 hg10 p0 p1 p2 p3 p4 p5 e0 e1 e2 e3 e4 v0 v1 v2 v3 v4 v5 v6 v7 p2' v0' v1' v2' v3' v4' v5' v6' v7' HBX HBY HBG
            refine region_perm 116 [0, 1, 2, 3, 4, 5, 6, 7, 8, 9, 10, 11, 12, 13, 14] [15, 16, 17] (w0 := w10) (by kernel_rfl) (by kernel_rfl) rfl (Below.refl _ _) ?_
            apply Exists.intro
            refine ⟨?hq, ?ht⟩
            case hq =>
              intro wb hwb
              have cz := fun z : BW wb.heap.size wb => Up.trans hwb z.ok
              have HCZ := hid cz
              have k1 := fun z : BW wb.heap.size wb => (HXA.out.below (HCZ.out z)).cells.1.1
              have k2 := fun z : BW wb.heap.size wb => (HXA.out.below (HCZ.out z)).cells.1.2
              have k3 := fun z : BW wb.heap.size wb => (HYA.out.below (HCZ.out z)).cells.1.1
              have k4 := fun z : BW wb.heap.size wb => (HYA.out.below (HCZ.out z)).cells.1.2
              have k5 := fun z : BW wb.heap.size wb => (HGA.out.below (HCZ.out z)).cells.k1
              have k6 := fun z : BW wb.heap.size wb => (HGA.out.below (HCZ.out z)).cells.k2
              have k7 := fun z : BW wb.heap.size wb => (HS4.out z.val ((HCZ.out z).block _ HSL.out)).1.1
              have k8 := fun z : BW wb.heap.size wb => (HS4.out z.val ((HCZ.out z).block _ HSL.out)).1.2
              clear cz
              have HZA := hid (below_class (wb := wb) (Nat.le_refl wb.heap.size) fun z => HT1.out z.val)
              have HZB := hid (below_class (wb := wb) (Nat.le_refl wb.heap.size) fun z => HT2.out z.val)
              have HZC := hid (below_class (wb := wb) (Nat.le_refl wb.heap.size) fun z => HA5.out z.val)
              have HZD := hid (below_class (wb := wb) (Nat.le_refl wb.heap.size) fun z => HA6.out z.val)
              simp only [List.map_cons, List.map_nil, List.getD_cons_zero, List.getD_cons_succ]
              repeat (go_big_quiet_step (first | (go_at_call 39; with_reducible exact (HZA.out _)) | (go_at_call 39; with_reducible exact (HZB.out _)) | (go_at_call 38; with_reducible exact (HZC.out _)) | (go_at_call 38; with_reducible exact (HZD.out _))))
              refine wpQuiet_nil ?_
              exact rfl
            case ht =>
              intro w' hw'
              have hbx := HBA.out.below hw'
              have HXB := hid (HXA.out.below hw'); have HYB := hid (HYA.out.below hw'); have HGB := hid (HGA.out.below hw'); have HBB' := hid hbx; have HRB' := hid (HRA.out.trans (hw'.mono HRA.out.size)); have HSB := hid (hw'.block _ HSL.out)
              have hc := hbx.cells
              have i7 := hc.k7; have i8 := hc.k8; have i9 := hc.k9; have i10 := hc.k10; have z7 := hc.z7; have z8 := hc.z8; have z9 := hc.z9; have z10 := hc.z10
              clear hbx hc hw' HT1 HT2 HA5 HA6
              simp only [List.map_cons, List.map_nil, List.getD_cons_zero, List.getD_cons_succ]
              go_upto_region 15 with (fail)
              obtain ⟨w11, hw11⟩ : ∃ w11, w11 = (((w'.setCell ⟨b15, 7, none⟩ (.int .i64 fX.n)).setCell ⟨b15, 8, none⟩ (.int .i64 fX.d)).setCell ⟨b15, 9, none⟩ (.int .i64 fY.n)).setCell ⟨b15, 10, none⟩ (.int .i64 fY.d) := ⟨_, rfl⟩
              have HBC := hid (show BxB w11 b15 ⟨gn, fX, fY, ⟨0, 0⟩, ⟨0, 0⟩⟩ by rw [hw11]; exact (HBB'.out.set_x (f := fX)).set_y (f := fY))
              have HGC := hid (show GpB w11 b7 ⟨k, s, (ln, at_)⟩ by rw [hw11]; exact (((HGB.out.far (Ne.symm l157)).far (Ne.symm l157)).far (Ne.symm l157)).far (Ne.symm l157))
              have HRC := hid (show Below wr.heap.size wr w11 by rw [hw11]; exact (((HRB'.out.setCell hr15 _).setCell hr15 _).setCell hr15 _).setCell hr15 _)
              have HSC' := hid (show w11.heap[b13]? = w10.heap[b13]? by rw [hw11, far_blk (Ne.symm l1513), far_blk (Ne.symm l1513), far_blk (Ne.symm l1513), far_blk (Ne.symm l1513)]; exact HSB.out)
              have HSL2 := hid (show b13 < w11.heap.size from by have := HSC'.out; have h := HSL.out; rw [Array.getElem?_eq_getElem h] at this; exact (Array.getElem?_eq_some_iff.1 this).1)
              rw [← hw11]
              clear hw11 i7 i8 i9 i10 z7 z8 z9 z10 HXB HYB HGB HBB' HRB' HSB
              refine region_perm 116 [0, 1, 2, 3, 4, 5, 6, 7, 8, 9, 10] [11, 12, 13] (w0 := w11) (by kernel_rfl) (by kernel_rfl) rfl (Below.refl _ _) ?_
              apply Exists.intro
              refine ⟨?hq, ?ht⟩
              case hq =>
                intro wb hwb
                have cz := fun z : BW wb.heap.size wb => Up.trans hwb z.ok
                have HCZ := hid cz
                have k5 := fun z : BW wb.heap.size wb => (HGC.out.below (HCZ.out z)).cells.k1
                have k6 := fun z : BW wb.heap.size wb => (HGC.out.below (HCZ.out z)).cells.k2
                have k7 := fun z : BW wb.heap.size wb => (HS4.out z.val (((HCZ.out z).block _ HSL2.out).trans HSC'.out)).2.1
                have k8 := fun z : BW wb.heap.size wb => (HS4.out z.val (((HCZ.out z).block _ HSL2.out).trans HSC'.out)).2.2
                clear cz
                have HZA := hid (below_class (wb := wb) (Nat.le_refl wb.heap.size) fun z => HT3.out z.val)
                have HZB := hid (below_class (wb := wb) (Nat.le_refl wb.heap.size) fun z => HT4.out z.val)
                simp only [List.map_cons, List.map_nil, List.getD_cons_zero, List.getD_cons_succ]
                repeat (go_big_quiet_step (first | (go_at_call 39; with_reducible exact (HZA.out _)) | (go_at_call 39; with_reducible exact (HZB.out _))))
                refine wpQuiet_nil ?_
                exact rfl
              case ht =>
                intro w' hw'
                have hbx := HBC.out.below hw'
                have HBB' := hid hbx; have HRB' := hid (HRC.out.trans (hw'.mono HRC.out.size))
                have hc := hbx.cells
                have i11 := hc.k11; have i12 := hc.k12; have i13 := hc.k13; have i14 := hc.k14; have z11 := hc.z11; have z12 := hc.z12; have z13 := hc.z13; have z14 := hc.z14
                clear hbx hc hw' HT3 HT4 HGC HS4
                simp only [List.map_cons, List.map_nil, List.getD_cons_zero, List.getD_cons_succ]
                go_upto_region 16 with (fail)
                obtain ⟨w12, hw12⟩ : ∃ w12, w12 = (((w'.setCell ⟨b15, 11, none⟩ (.int .i64 tw.n)).setCell ⟨b15, 12, none⟩ (.int .i64 tw.d)).setCell ⟨b15, 13, none⟩ (.int .i64 th.n)).setCell ⟨b15, 14, none⟩ (.int .i64 th.d) := ⟨_, rfl⟩
                have HBD := hid (show BxB w12 b15 rb by rw [hw12, HRB.out]; exact (HBB'.out.set_w (f := tw)).set_h (f := th))
                have hrd : Below wr.heap.size wr w12 := by rw [hw12]; exact (((HRB'.out.setCell hr15 _).setCell hr15 _).setCell hr15 _).setCell hr15 _
                have HRD' := hid hrd
                obtain ⟨p4, p5⟩ := HPG.out
                have p4' := (hrd.cell (p := ⟨B1, 0, none⟩) hB1w).trans p4
                have p5' := (hrd.cell (p := ⟨B1, 1, none⟩) hB1w).trans p5
                rw [← hw12]
                clear hw12 i11 i12 i13 i14 z11 z12 z13 z14 HBB' HRB' hrd p4 p5 HBC HRC HSC' HSL2 HSL HRB
                obtain ⟨ub, hub⟩ : ∃ ub, ub = trnB way rb := ⟨_, rfl⟩
                rw [← hub] at HTU HTK
                clear hub
                have HEC := hid (show flatB D1 ++ [.int .i64 ub.nd.kind, .int .i64 ub.nd.sign, .int .i64 ub.nd.turn, .bool ub.nd.mir, .int .i64 ub.nd.state, .int .i64 ub.nd.mn, .int .i64 ub.nd.mx, .int .i64 ub.x.n, .int .i64 ub.x.d, .int .i64 ub.y.n, .int .i64 ub.y.d, .int .i64 ub.w.n, .int .i64 ub.w.d, .int .i64 ub.h.n, .int .i64 ub.h.d] = flatB D2 from by rw [HTK.out, flatB_app, flatB_one]; rfl)
                have HEL := hid (show D1.length + 1 = D2.length from by rw [HTK.out, List.length_append]; rfl)
                have HNX := hid fun (w13 w14 : World) (v14 : Value) (X : Obj) (hb13 : Below w12.heap.size w12 w13) (ho : w14.ownsRow w2.heap.size 44 15 v14 (D1.length + 1) (flatB D1 ++ [.int .i64 ub.nd.kind, .int .i64 ub.nd.sign, .int .i64 ub.nd.turn, .bool ub.nd.mir, .int .i64 ub.nd.state, .int .i64 ub.nd.mn, .int .i64 ub.nd.mx, .int .i64 ub.x.n, .int .i64 ub.x.d, .int .i64 ub.y.n, .int .i64 ub.y.d, .int .i64 ub.w.n, .int .i64 ub.w.d, .int .i64 ub.h.n, .int .i64 ub.h.d])) (hg : (w13.alloc X).grownBy w14 (Value.ownBlock u5)) (hf : ∀ q, v14.ownBlock = some q → Value.ownBlock u5 = some q ∨ (w13.alloc X).heap.size ≤ q) =>
                  (show w14.ownsRow w2.heap.size 44 15 v14 D2.length (flatB D2) ∧ Grew w9 _ w14 v14 from by
                    rw [HEC.out, HEL.out] at ho
                    have h1 := HRD'.out.trans (hb13.mono HRD'.out.size)
                    exact ⟨ho, (hGR.out.below (h1.alloc h1.size X)).next ⟨hg, hf⟩⟩)
                have HOK := hid fun (w13 : World) (X : Obj) (hb13 : Below w12.heap.size w12 w13) => (show (w13.alloc X).ownsRow w2.heap.size 44 15 u5 D1.length (flatB D1) ∧ w2.heap.size ≤ (w13.alloc X).heap.size from by
                  have h1 := HRD'.out.trans (hb13.mono HRD'.out.size)
                  have h2 := hGR.out.gr.size
                  have h3 := HB29.out.size
                  have h4 := h1.size
                  exact ⟨own_keep hO2.out (h1.alloc h1.size X), by simp; omega⟩)
                clear hO2 hGR
                go_wp2_with (first | (refine wp_load_box rfl (.tmp 15) rfl b15 rb rfl HBD.out ?_) | (go_at_call 42; refine (HTU.out _).mono ?_; rintro e w13 ⟨rfl, hb13'⟩; have HB13 := hid hb13'; clear hb13' p4' p5') | (at_builtin; go_loud (refine app_elemF rfl (.tmp 107) (.tmp 111) Tryz.underBoxes Tryz.infoBox rfl (by decide) (by decide) rfl w2.heap.size _ D1.length (flatB D1) rfl (HOK.out w13 _ HB13.out).1 ⟨w13.heap.size, 0, none⟩ [.int .i64 ub.nd.kind, .int .i64 ub.nd.sign, .int .i64 ub.nd.turn, .bool ub.nd.mir, .int .i64 ub.nd.state, .int .i64 ub.nd.mn, .int .i64 ub.nd.mx, .int .i64 ub.x.n, .int .i64 ub.x.d, .int .i64 ub.y.n, .int .i64 ub.y.d, .int .i64 ub.w.n, .int .i64 ub.w.d, .int .i64 ub.h.n, .int .i64 ub.h.d] rfl rfl (fun q u h => by rw [Addr.add_lit]; exact cell_here rfl (by simpa using h)) (fun u hu => by simp at hu; rcases hu with rfl | rfl | rfl | rfl | rfl | rfl | rfl | rfl | rfl | rfl | rfl | rfl | rfl | rfl | rfl <;> rfl) (by have := HTL.out; omega) (HOK.out w13 _ HB13.out).2 ?_); intro v14 w14 ho14 hg14 hf14; obtain ⟨ho15, hg15⟩ := HNX.out w13 w14 v14 _ HB13.out ho14 hg14 hf14; have HO15 := hid ho15; have HG15 := hid hg15; clear ho14 hg14 hf14 ho15 hg15))
                go_roundw
                case rel => exact ⟨q + 1, by omega, by go_num, by rw [HD2.out]; exact HO15, HG15⟩
                case measure => simp [intOf]; omega
          · obtain rfl : q = np := by omega
            have g0 : decide ((q : Int) < (q : Int)) = false := by simp
            have htk : (S 0 0).take q = S 0 0 := by rw [HNP.out]; exact List.take_length
            have HO15 := hid (show wr.ownsRow w2.heap.size 44 15 u5 (boxJ ss l rows way len (j + 1)).length (flatB (boxJ ss l rows way len (j + 1))) from by
              have h := hO2.out
              rw [htk, ← HBSJ.out] at h
              exact h)
            have HB15 := hid (show Below w2.heap.size w2 wr from below_app HB29.out HOW9.out hGR.out.gr (Nat.le_refl _) HB29.out.size)
            clear hO2 hGR htk
            go_wp2_with fail
            go_roundw
            case rel => exact ⟨j + 1, by omega, by go_num, HO15, HB15⟩
            case measure => simp [intOf]; omega
    · obtain rfl : j = m := by omega
      have g0 : decide ((j : Int) < (j : Int)) = false := by simp
      have HOE := hid (show wr.ownsRow w2.heap.size 44 15 u5 (layBx ss l rows way len).length (flatB (layBx ss l rows way len)) from by have h := hO.out; rw [HBE.out] at h; exact h)
      clear hO
      go_wp2_with fail
      go_ret
      exact ⟨u5, rfl, own_down HOE.out (by have := HZ1.out; have := HB0.out; have := HB2.out.size; omega), HB1.out.trans (HBW.out.mono HB1.out.size)⟩
end Go.Proofs.YtimblabaeclhpaaGreat
