/- WALK: restored. -/
import Derived.Test.YtaoddenadfmdbaaAlgW
import Derived.Test.YtaoddenadfmdbaaDivL
import Derived.Test.YtaoddenadfmdbaaEtdW
import Derived.Test.YtaoddenadfmdbaaKeyW
namespace Go.Proofs.Ytaoddenadfmdbaa
open Go.RowKit Go.Maps
/-- A restoration in memory. -/
def Rsb (W : World) (b : Nat) (v0 v1 v2 v3 : Value) : Prop := W.heap[b]? = some (.cells #[v0, v1, v2, v3] 33 (0, 0))
structure RsbC (W : World) (b : Nat) (v0 v1 v2 v3 : Value) : Prop where
  c0 : W.cell? ⟨b, 0, none⟩ = some v0
  c1 : W.cell? ⟨b, 1, none⟩ = some v1
  c2 : W.cell? ⟨b, 2, none⟩ = some v2
  c3 : W.cell? ⟨b, 3, none⟩ = some v3
  z : ∀ j, W.frozen? ⟨b, j, none⟩ = false
theorem Rsb.cells {W : World} {b : Nat} {v0 v1 v2 v3 : Value} (h : Rsb W b v0 v1 v2 v3) : RsbC W b v0 v1 v2 v3 := by
  unfold Rsb at h
  constructor <;> simp [World.cell?, World.frozen?, h]
theorem Rsb.set0 {W : World} {b : Nat} {v0 v1 v2 v3 u : Value} (h : Rsb W b v0 v1 v2 v3) : Rsb (W.setCell ⟨b, 0, none⟩ u) b u v1 v2 v3 := by
  unfold Rsb at h ⊢
  simp [World.setCell, h, Array.getElem?_modify]
theorem Rsb.set1 {W : World} {b : Nat} {v0 v1 v2 v3 u : Value} (h : Rsb W b v0 v1 v2 v3) : Rsb (W.setCell ⟨b, 1, none⟩ u) b v0 u v2 v3 := by
  unfold Rsb at h ⊢
  simp [World.setCell, h, Array.getElem?_modify]
theorem Rsb.set2 {W : World} {b : Nat} {v0 v1 v2 v3 u : Value} (h : Rsb W b v0 v1 v2 v3) : Rsb (W.setCell ⟨b, 2, none⟩ u) b v0 v1 u v3 := by
  unfold Rsb at h ⊢
  simp [World.setCell, h, Array.getElem?_modify]
theorem Rsb.set3 {W : World} {b : Nat} {v0 v1 v2 v3 u : Value} (h : Rsb W b v0 v1 v2 v3) : Rsb (W.setCell ⟨b, 3, none⟩ u) b v0 v1 v2 u := by
  unfold Rsb at h ⊢
  simp [World.setCell, h, Array.getElem?_modify]
theorem Gb.app {b : Nat} {w7 wd wa w8 : World} {v : Value} (h1 : Gb b w7 wd) (h2 : Below wd.heap.size wd wa) (h3 : wa.grownBy w8 v.ownBlock) (hv : ∀ j, v.ownBlock = some j → w7.heap.size ≤ j) (a : Addr) (ha : a.block = b) (u : Value) : Gb b w7 (w8.setCell a u) := by
  have h4 := h1.trans (Gb.of (mb := b) h2)
  refine ⟨h3.os.trans h4.os, h3.tape.trans h4.tape, h3.output.trans h4.output, by have := h3.size; have := h4.size; simp [World.setCell]; omega, fun j hj hn => ?_⟩
  have e1 : (w8.setCell a u).heap[j]? = w8.heap[j]? := by
    have hne : j ≠ a.block := fun e => hn (by rw [e, ha])
    simp [World.setCell, Array.getElem?_modify, Ne.symm hne]
  rw [e1]
  exact (h3.block j (Nat.lt_of_lt_of_le hj h4.size) (fun e => by have := hv j e.symm; omega)).trans (h4.block j hj hn)
set_option maxRecDepth 100000 in
set_option maxHeartbeats 4000000 in
theorem restored_any {cs : List Cl} {n : Nat} (hc : CsOk cs n) (par line : List Int) (hp : par.length ≤ 100) (hl : line.length ≤ 100) (A2 A3 A4 : Option Addr) (c2 c3 c4 B4 : Nat) (w : World) (rc : Cls w w.heap.size A2 cs) (rp : Rd w w.heap.size A3 par) (ro : w.ownsRow B4 3 1 (.slice A4 line.length c4) line.length (ints line)) :
    Calls Try.prog 43 #[.slice A2 cs.length c2, .slice A3 par.length c3, .slice A4 line.length c4] w fun e w' => (∃ A c A5 n5 c5 A6 n6 c6, e = .returned (.agg #[.slice A line.length c, .slice A5 n5 c5, .slice A6 n6 c6, .int .i64 (ED line par : Nat)]) ∧ w'.ownsRow w.heap.size 3 1 (.slice A line.length c) line.length (ints line)) ∧ Below w.heap.size w w' := by
  have hrl : ∀ W, Below w.heap.size w W → Rd W W.heap.size A4 line := fun W hW => own_rd (own_keep ro hW) rfl
  obtain ⟨w1, hw1⟩ : ∃ W, W = w.alloc (.cells #[.slice none 0 0, .slice none 0 0, .slice none 0 0, .int .i64 0] 33) := ⟨_, rfl⟩
  have hb1 : Below w.heap.size w w1 := by rw [hw1]; exact (Below.refl _ _).alloc (Nat.le_refl _) _
  have hz1 : w.heap.size < w1.heap.size := by rw [hw1]; simp
  have HR1 := hid (show Rsb w1 w.heap.size (.slice none 0 0) (.slice none 0 0) (.slice none 0 0) (.int .i64 0) by rw [hw1]; exact nwB rfl)
  have HCL := hid (wclone_any line (.slice A4 line.length c4) B4 (by omega) w1 (own_keep ro hb1))
  have HDV := hid fun (W : World) (hW : Below w.heap.size w W) => divide_any hc line (by omega) A2 A4 c2 c4 W (Cls.more (rc.below hW) hW.size) (hrl W hW)
  have HAL := hid fun (W : World) (hW : Below w.heap.size w W) => walign_any par line A3 A4 c3 c4 hp hl W (Rd.more (rp.below hW) hW.size) (hrl W hW)
  obtain ⟨m, hm⟩ : ∃ m, m = line.length := ⟨_, rfl⟩
  obtain ⟨k, hk⟩ : ∃ k, k = cs.length := ⟨_, rfl⟩
  obtain ⟨q, hq⟩ : ∃ q, q = par.length := ⟨_, rfl⟩
  obtain ⟨d, hd⟩ : ∃ d, d = ED line par := ⟨_, rfl⟩
  have HRP := hid rp; have HRL := hid hrl; have HB1 := hid hb1; have HZ1 := hid hz1; have HW1 := hid hw1
  rw [← hm, ← hk] at HDV; rw [← hm, ← hq, ← hd] at HAL; rw [← hm] at HCL hl; rw [← hq] at hp
  rw [← hm, ← hk, ← hq, ← hd]
  have HM := hid hm; have HQ := hid hq
  clear hm hk hq hd hw1 hb1 hz1 hrl rc rp ro hc
  go_enter Try.func43, Try.ntmps43
  go_upto_region 1 with (fail)
  rw [← HW1.out]
  clear HW1
  go_upto_region 2 with (first | (go_at_call 60; refine HCL.out.mono ?_; rintro e w2 ⟨v2, rfl, ho2, hb2⟩; obtain ⟨A7, c7, rfl⟩ := own_slice ho2; have HO2 := hid ho2; have HB2 := hid hb2; clear ho2 hb2))
  have HB2a := hid (HB1.out.trans (HB2.out.mono HB1.out.size))
  have HR2 := hid (show Rsb w2 w.heap.size (.slice none 0 0) (.slice none 0 0) (.slice none 0 0) (.int .i64 0) from (HB2.out.block _ HZ1.out).trans HR1.out)
  have HZ2 := hid (Nat.lt_of_lt_of_le HZ1.out HB2.out.size)
  obtain ⟨b, hb⟩ : ∃ b, b = w2.heap.size := ⟨_, rfl⟩
  obtain ⟨w3, hw3⟩ : ∃ W, W = w2.alloc (.cells #[.slice A7 m c7, .slice none 0 0, .slice none 0 0, .int .i64 0] 33) := ⟨_, rfl⟩
  rw [← hb, ← hw3]
  have HR3 := hid (show Rsb w3 b (.slice A7 m c7) (.slice none 0 0) (.slice none 0 0) (.int .i64 0) by rw [hw3]; exact nwB hb)
  have hb3 : Below w2.heap.size w2 w3 := by rw [hw3]; exact (Below.refl _ _).alloc (Nat.le_refl _) _
  have HB3 := hid (HB2a.out.trans (hb3.mono HB2a.out.size))
  have HO3 := hid (own_keep HO2.out hb3)
  have HP3 := hid (show Rsb w3 w.heap.size (.slice none 0 0) (.slice none 0 0) (.slice none 0 0) (.int .i64 0) from (hb3.block _ HZ2.out).trans HR2.out)
  have HL7 := hid fun (j : Nat) (e : (Value.slice A7 m c7).ownBlock = some j) => (show j < b by rw [hb]; exact (HO2.out.lt j e).2)
  have HLT := hid (show w.heap.size < b by rw [hb]; exact HZ2.out)
  have HBB := hid (show b < w3.heap.size from lt_of_block HR3.out)
  clear hw3 hb3 hb HR2 HR1 HO2 HZ2 HB2 HB2a HCL
  go_upto_region 3 with (first | (go_at_call 61; refine (HDV.out w3 HB3.out).mono ?_; rintro e w4 ⟨⟨A5, n5, c5, b5, rfl⟩, hb4⟩; have HB4 := hid hb4; have R4 := hid (show Rsb w4 b (.slice A7 m c7) (.slice none 0 0) (.slice none 0 0) (.int .i64 0) from (hb4.block _ HBB.out).trans HR3.out); have z4 := R4.out.cells.z 1; have y4 := R4.out.cells.c1; clear hb4))
  obtain ⟨w5, hw5⟩ : ∃ W, W = w4.setCell ⟨b, 1, none⟩ (.slice A5 n5 c5) := ⟨_, rfl⟩
  rw [← hw5]
  have HB5 := hid (show Below w.heap.size w w5 by rw [hw5]; exact (HB3.out.trans (HB4.out.mono HB3.out.size)).setCell (p := ⟨b, 1, none⟩) (Nat.le_of_lt HLT.out) _)
  have R5 := hid (show Rsb w5 b (.slice A7 m c7) (.slice A5 n5 c5) (.slice none 0 0) (.int .i64 0) by rw [hw5]; exact R4.out.set1)
  have P5 := hid (show Rsb w5 w.heap.size (.slice none 0 0) (.slice none 0 0) (.slice none 0 0) (.int .i64 0) by
    rw [hw5]
    exact (((Below.refl b w4).setCell (p := ⟨b, 1, none⟩) (Nat.le_refl _) _).block _ HLT.out).trans ((HB4.out.block _ (lt_of_block HP3.out)).trans HP3.out))
  have O5 := hid (show w5.ownsRow w1.heap.size 3 1 (.slice A7 m c7) m (ints line) by
    rw [hw5]
    refine ownsRow_setCell_other (own_keep HO3.out HB4.out) (a := ⟨b, 1, none⟩) (fun he => ?_) _
    have h1 := HL7.out _ he
    exact Nat.lt_irrefl _ h1)
  clear hw5 z4 y4 R4 HB4 HB3 HR3 HP3 HO3 HDV
  go_upto_region 4 with (first | (go_at_call 62; refine (HAL.out w5 HB5.out).mono ?_; rintro e w6 ⟨⟨g6, hgl6, rfl, hg6⟩, hb6⟩; have HB6 := hid hb6; have HGL := hid (Nat.lt_of_lt_of_le (lt_of_block R5.out) hgl6); have HG6 := hid hg6; have R6 := hid (show Rsb w6 b (.slice A7 m c7) (.slice A5 n5 c5) (.slice none 0 0) (.int .i64 0) from (hb6.block _ (lt_of_block R5.out)).trans R5.out); have z6 := R6.out.cells.z 3; have y6 := R6.out.cells.c3; clear hb6 hg6 hgl6))
  go_upto_region 5 with (fail)
  obtain ⟨w7, hw7⟩ : ∃ W, W = w6.setCell ⟨b, 3, none⟩ (.int .i64 (d : Int)) := ⟨_, rfl⟩
  rw [← hw7]
  have HB7 := hid (show Below w.heap.size w w7 by rw [hw7]; exact (HB5.out.trans (HB6.out.mono HB5.out.size)).setCell (p := ⟨b, 3, none⟩) (Nat.le_of_lt HLT.out) _)
  have R7 := hid (show Rsb w7 b (.slice A7 m c7) (.slice A5 n5 c5) (.slice none 0 0) (.int .i64 (d : Int)) by rw [hw7]; exact R6.out.set3)
  have P7 := hid (show Rsb w7 w.heap.size (.slice none 0 0) (.slice none 0 0) (.slice none 0 0) (.int .i64 0) by
    rw [hw7]
    exact (((Below.refl b w6).setCell (p := ⟨b, 3, none⟩) (Nat.le_refl _) _).block _ HLT.out).trans ((HB6.out.block _ (lt_of_block P5.out)).trans P5.out))
  have O7 := hid (show w7.ownsRow w1.heap.size 3 1 (.slice A7 m c7) m (ints line) by
    rw [hw7]
    refine ownsRow_setCell_other (own_keep O5.out HB6.out) (a := ⟨b, 3, none⟩) (fun he => ?_) _
    have h1 := HL7.out _ he
    exact Nat.lt_irrefl _ h1)
  have G7 := hid fun (i : Nat) (hi : i < m) => (show ∃ x : Int, w7.cell? ⟨g6, i, none⟩ = some (.int .i64 x) ∧ (x = -1 ∨ 0 ≤ x ∧ x < q) from by
    obtain ⟨x, h1, h2⟩ := HG6.out i hi
    refine ⟨x, ?_, h2⟩
    rw [hw7]
    exact cell_set_far h1 (.inl (Nat.ne_of_lt HGL.out)))
  have HN6 := hid (show g6 < w7.heap.size ∨ m = 0 from by
    by_cases h0 : m = 0
    · exact .inr h0
    · obtain ⟨x, h1, _⟩ := G7.out 0 (by omega)
      exact .inl (cell_lt h1))
  clear hw7 z6 y6 R6 HB6 HB5 R5 P5 O5 HAL HG6
  go_wp2_with fail
  have HBZ := hid (show b < w7.heap.size from lt_of_block R7.out)
  go_loopw [11, 32] (fun _ iv wr => ∃ (i : Nat) (v2 : Value) (xs : List Value), i ≤ m ∧ iv = .int .i64 (i : Int) ∧ Hid (Rsb wr b (.slice A7 m c7) (.slice A5 n5 c5) v2 (.int .i64 (d : Int))) ∧ Hid (wr.ownsRow w7.heap.size 3 1 v2 i xs) ∧ Hid (Gb b w7 wr)) (fun _ iv _ => m - (intOf iv).toNat)
  case atStart => exact ⟨0, .slice none 0 0, [], by omega, rfl, R7, hid (World.ownsRow_nil _ _ _ _), hid (Gb.refl _ _)⟩
  case round =>
    obtain ⟨i, v2, xs, hi, rfl, R8, hO, hGb⟩ := hrel
    obtain ⟨A8, c8, rfl⟩ := own_slice hO.out
    have HSZ := hid hGb.out.size
    by_cases him : i < m
    · have q0 : (i : Int) < (m : Int) := by omega
      obtain ⟨x, h1, h2⟩ := G7.out i him
      have p1 : wr.cell? ⟨g6, i, none⟩ = some (.int .i64 x) := (World.cell?_of_block (a := ⟨g6, i, none⟩) (hGb.out.block g6 (cell_lt h1) (by intro e; injection e with e; have := HGL.out; omega))).trans h1
      clear h1
      go_upto_region 8 with (fail)
      rcases h2 with rfl | ⟨hx0, hxq⟩
      · have e1 : decide ((0 : Int) ≤ (-1 : Int)) = false := by decide
        go_quiet (fail)
        go_upto_region 10 with (fail)
        have hbd : Below wr.heap.size wr (wr.drewN nq) := below_drewN (Below.refl _ _) _
        obtain ⟨wd, hwd⟩ : ∃ W, W = (wr.drewN nq) := ⟨_, rfl⟩
        rw [← hwd] at hbd ⊢
        have hGd := hid (hGb.out.trans (Gb.of hbd))
        have hOd := hid (own_keep hO.out hbd)
        have Rd8 := hid (show Rsb wd b (.slice A7 m c7) (.slice A5 n5 c5) (.slice A8 i c8) (.int .i64 (d : Int)) from (hbd.block _ (lt_of_block R8.out)).trans R8.out)
        have HSd := hid hGd.out.size
        have y2 := Rd8.out.cells.c2
        have HA := hid (show Below wd.heap.size wd (wd.alloc (.cells #[.int .i64 (-1 : Int)] 3)) from (Below.refl _ _).alloc (Nat.le_refl _) _)
        have hi10 : i ≤ 10000000000 := by omega
        clear hbd hwd p1
        go_wp2_with (first
          | (at_builtin; go_loud (refine app_elem rfl (.tmp 51) (.tmp 53) Try.underlying26 Try.infoInt rfl (by decide) (by decide) rfl w7.heap.size _ i xs rfl (hOd.out.alloc _) ⟨wd.heap.size, 0, none⟩ [.int .i64 (-1 : Int)] rfl rfl (cell_news wd [.int .i64 (-1 : Int)] _) (by simp [Value.oneCell']) hi10 (by have := HSd.out; simp; omega) ?_); intro v5 w8 ho5 hg5; obtain ⟨A10, c10, rfl⟩ := own_slice ho5; have HO5 := hid ho5; have HG5 := hid hg5; have R9 := hid (show Rsb w8 b (.slice A7 m c7) (.slice A5 n5 c5) (.slice A8 i c8) (.int .i64 (d : Int)) from (hg5.block b (by have := HBZ.out; have := HSd.out; simp; omega) (fun e => by have := (hOd.out.lt b e.symm).1; have := HBZ.out; omega)).trans ((HA.out.block b (by have := HBZ.out; have := HSd.out; omega)).trans Rd8.out)); have y9 := R9.out.cells.c2; have z9 := R9.out.cells.z 2; clear ho5 hg5))
        have hge : Gb b w7 (w8.setCell ⟨b, 2, none⟩ (.slice A10 (i + 1) c10)) := Gb.app hGd.out HA.out HG5.out (fun j hj => (hOd.out.lt j hj).1) ⟨b, 2, none⟩ rfl _
        go_roundw
        case rel => exact ⟨i + 1, .slice A10 (i + 1) c10, _, by omega, by go_num, hid R9.out.set2, hid (ownsRow_setCell_other HO5.out (a := ⟨b, 2, none⟩) (fun he => by have := (HO5.out.lt _ he).1; have := HBZ.out; simp only [] at *; omega) _), hid hge⟩
        case measure => simp [intOf]; omega
      · obtain ⟨X, rfl⟩ : ∃ X : Nat, x = (X : Int) := ⟨x.toNat, by omega⟩
        have e1 : decide ((0 : Int) ≤ (X : Int)) = true := decide_eq_true (by omega)
        obtain ⟨bp, op, rfl, hbp, hcp⟩ := HRP.out.at (by rw [← HQ.out]; omega)
        have hbw : Below w.heap.size w wr := HB7.out.trans (hGb.out.below (Nat.le_of_lt HLT.out) HB7.out.size)
        have p2 := (hbw.cell (p := ⟨bp, op + X, none⟩) hbp).trans (hcp X (by rw [← HQ.out]; omega))
        obtain ⟨bl, ol, rfl, hbl, hcl⟩ := (HRL.out wr hbw).at (by rw [← HM.out]; omega)
        have p3 := hcl i (by rw [← HM.out]; exact him)
        have q1 : (X : Int) < (q : Int) := hxq
        generalize nth par X = a1 at p2
        generalize nth line i = a2 at p3
        clear hcp hcl hbw hx0 hxq
        by_cases hne : a1 = a2
        · have e2 : (a1 != a2) = false := by simp [hne]
          clear hne
          go_quiet (fail)
          go_upto_region 10 with (fail)
          clear p2 p3
          have hbd : Below wr.heap.size wr (wr.drewN nq) := below_drewN (Below.refl _ _) _
          obtain ⟨wd, hwd⟩ : ∃ W, W = (wr.drewN nq) := ⟨_, rfl⟩
          rw [← hwd] at hbd ⊢
          have hGd := hid (hGb.out.trans (Gb.of hbd))
          have hOd := hid (own_keep hO.out hbd)
          have Rd8 := hid (show Rsb wd b (.slice A7 m c7) (.slice A5 n5 c5) (.slice A8 i c8) (.int .i64 (d : Int)) from (hbd.block _ (lt_of_block R8.out)).trans R8.out)
          have HSd := hid hGd.out.size
          have y2 := Rd8.out.cells.c2
          have HA := hid (show Below wd.heap.size wd (wd.alloc (.cells #[.int .i64 (X : Int)] 3)) from (Below.refl _ _).alloc (Nat.le_refl _) _)
          have hi10 : i ≤ 10000000000 := by omega
          clear hbd hwd p1
          go_wp2_with (first
            | (at_builtin; go_loud (refine app_elem rfl (.tmp 51) (.tmp 53) Try.underlying26 Try.infoInt rfl (by decide) (by decide) rfl w7.heap.size _ i xs rfl (hOd.out.alloc _) ⟨wd.heap.size, 0, none⟩ [.int .i64 (X : Int)] rfl rfl (cell_news wd [.int .i64 (X : Int)] _) (by simp [Value.oneCell']) hi10 (by have := HSd.out; simp; omega) ?_); intro v5 w8 ho5 hg5; obtain ⟨A10, c10, rfl⟩ := own_slice ho5; have HO5 := hid ho5; have HG5 := hid hg5; have R9 := hid (show Rsb w8 b (.slice A7 m c7) (.slice A5 n5 c5) (.slice A8 i c8) (.int .i64 (d : Int)) from (hg5.block b (by have := HBZ.out; have := HSd.out; simp; omega) (fun e => by have := (hOd.out.lt b e.symm).1; have := HBZ.out; omega)).trans ((HA.out.block b (by have := HBZ.out; have := HSd.out; omega)).trans Rd8.out)); have y9 := R9.out.cells.c2; have z9 := R9.out.cells.z 2; clear ho5 hg5))
          have hge : Gb b w7 (w8.setCell ⟨b, 2, none⟩ (.slice A10 (i + 1) c10)) := Gb.app hGd.out HA.out HG5.out (fun j hj => (hOd.out.lt j hj).1) ⟨b, 2, none⟩ rfl _
          go_roundw
          case rel => exact ⟨i + 1, .slice A10 (i + 1) c10, _, by omega, by go_num, hid R9.out.set2, hid (ownsRow_setCell_other HO5.out (a := ⟨b, 2, none⟩) (fun he => by have := (HO5.out.lt _ he).1; have := HBZ.out; simp only [] at *; omega) _), hid hge⟩
          case measure => simp [intOf]; omega
        · have e2 : (a1 != a2) = true := by simp [hne]
          clear hne
          go_quiet (fail)
          go_upto_region 10 with (fail)
          clear p2 p3
          have hbd : Below wr.heap.size wr (wr.drewN nq) := below_drewN (Below.refl _ _) _
          obtain ⟨wd, hwd⟩ : ∃ W, W = (wr.drewN nq) := ⟨_, rfl⟩
          rw [← hwd] at hbd ⊢
          have hGd := hid (hGb.out.trans (Gb.of hbd))
          have hOd := hid (own_keep hO.out hbd)
          have Rd8 := hid (show Rsb wd b (.slice A7 m c7) (.slice A5 n5 c5) (.slice A8 i c8) (.int .i64 (d : Int)) from (hbd.block _ (lt_of_block R8.out)).trans R8.out)
          have HSd := hid hGd.out.size
          have y2 := Rd8.out.cells.c2
          have HA := hid (show Below wd.heap.size wd (wd.alloc (.cells #[.int .i64 (-1 : Int)] 3)) from (Below.refl _ _).alloc (Nat.le_refl _) _)
          have hi10 : i ≤ 10000000000 := by omega
          clear hbd hwd p1
          go_wp2_with (first
            | (at_builtin; go_loud (refine app_elem rfl (.tmp 51) (.tmp 53) Try.underlying26 Try.infoInt rfl (by decide) (by decide) rfl w7.heap.size _ i xs rfl (hOd.out.alloc _) ⟨wd.heap.size, 0, none⟩ [.int .i64 (-1 : Int)] rfl rfl (cell_news wd [.int .i64 (-1 : Int)] _) (by simp [Value.oneCell']) hi10 (by have := HSd.out; simp; omega) ?_); intro v5 w8 ho5 hg5; obtain ⟨A10, c10, rfl⟩ := own_slice ho5; have HO5 := hid ho5; have HG5 := hid hg5; have R9 := hid (show Rsb w8 b (.slice A7 m c7) (.slice A5 n5 c5) (.slice A8 i c8) (.int .i64 (d : Int)) from (hg5.block b (by have := HBZ.out; have := HSd.out; simp; omega) (fun e => by have := (hOd.out.lt b e.symm).1; have := HBZ.out; omega)).trans ((HA.out.block b (by have := HBZ.out; have := HSd.out; omega)).trans Rd8.out)); have y9 := R9.out.cells.c2; have z9 := R9.out.cells.z 2; clear ho5 hg5))
          have hge : Gb b w7 (w8.setCell ⟨b, 2, none⟩ (.slice A10 (i + 1) c10)) := Gb.app hGd.out HA.out HG5.out (fun j hj => (hOd.out.lt j hj).1) ⟨b, 2, none⟩ rfl _
          go_roundw
          case rel => exact ⟨i + 1, .slice A10 (i + 1) c10, _, by omega, by go_num, hid R9.out.set2, hid (ownsRow_setCell_other HO5.out (a := ⟨b, 2, none⟩) (fun he => by have := (HO5.out.lt _ he).1; have := HBZ.out; simp only [] at *; omega) _), hid hge⟩
          case measure => simp [intOf]; omega
    · obtain rfl : i = m := by omega
      have q0 : decide ((i : Int) < (i : Int)) = false := by simp
      have x0 := R8.out.cells.c0; have x1 := R8.out.cells.c1; have x2 := R8.out.cells.c2; have x3 := R8.out.cells.c3
      have P8 := hid (show Rsb wr w.heap.size (.slice none 0 0) (.slice none 0 0) (.slice none 0 0) (.int .i64 0) from (hGb.out.block _ (lt_of_block P7.out) (by intro e; injection e with e; have := HLT.out; omega)).trans P7.out)
      have y0 := P8.out.cells.c0; have y1 := P8.out.cells.c1; have y2 := P8.out.cells.c2; have y3 := P8.out.cells.c3
      have z0 := P8.out.cells.z 0; have z1 := P8.out.cells.z 1; have z2 := P8.out.cells.z 2; have z3 := P8.out.cells.z 3
      go_wp2_with fail
      obtain ⟨wz, hwz⟩ : ∃ W, W = ((((wr.setCell ⟨w.heap.size, 0, none⟩ (.slice A7 i c7)).setCell ⟨w.heap.size, 1, none⟩ (.slice A5 n5 c5)).setCell ⟨w.heap.size, 2, none⟩ (.slice A8 i c8)).setCell ⟨w.heap.size, 3, none⟩ (.int .i64 (d : Int))) := ⟨_, rfl⟩
      have hPz : Rsb wz w.heap.size (.slice A7 i c7) (.slice A5 n5 c5) (.slice A8 i c8) (.int .i64 (d : Int)) := by rw [hwz]; exact P8.out.set0.set1.set2.set3
      have u0 := hPz.cells.c0; have u1 := hPz.cells.c1; have u2 := hPz.cells.c2; have u3 := hPz.cells.c3
      have hne : ∀ j, (Value.slice A7 i c7).ownBlock = some j → w.heap.size < j ∧ j < b := fun j e => ⟨Nat.lt_of_lt_of_le HZ1.out (O7.out.lt j e).1, HL7.out j e⟩
      have hOr : wr.ownsRow w1.heap.size 3 1 (.slice A7 i c7) i (ints line) := O7.out.kept hGb.out (by
        cases e : (Value.slice A7 i c7).ownBlock with
        | none => exact .inl rfl
        | some g => exact .inr (by intro e2; injection e2 with e2; have := hne g e; omega))
      have hne2 : ∀ j, (Value.slice A7 i c7).ownBlock ≠ some (⟨w.heap.size, j, none⟩ : Addr).block := fun j e => by have := (hne _ e).1; simp at this
      have hOz : wz.ownsRow w.heap.size 3 1 (.slice A7 i c7) i (ints line) := by
        rw [hwz]
        exact own_lower (ownsRow_setCell_other (ownsRow_setCell_other (ownsRow_setCell_other (ownsRow_setCell_other hOr (hne2 0) _) (hne2 1) _) (hne2 2) _) (hne2 3) _) HB1.out.size
      have hBz : Below w.heap.size w wz := by
        rw [hwz]
        exact ((((HB7.out.trans (hGb.out.below (Nat.le_of_lt HLT.out) HB7.out.size)).setCell (p := ⟨w.heap.size, 0, none⟩) (Nat.le_refl _) _).setCell (p := ⟨w.heap.size, 1, none⟩) (Nat.le_refl _) _).setCell (p := ⟨w.heap.size, 2, none⟩) (Nat.le_refl _) _).setCell (p := ⟨w.heap.size, 3, none⟩) (Nat.le_refl _) _
      rw [← hwz]
      refine bodyPost_ret (v := .agg #[.slice A7 i c7, .slice A5 n5 c5, .slice A8 i c8, .int .i64 (d : Int)]) (by simp [results, Try.results43, go_sem, u0, u1, u2, u3]) rfl ⟨⟨_, _, _, _, _, _, _, _, rfl, hOz⟩, hBz⟩
end Go.Proofs.Ytaoddenadfmdbaa
