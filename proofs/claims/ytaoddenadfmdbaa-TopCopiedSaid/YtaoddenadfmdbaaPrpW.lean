/- WALK: prepare. -/
import Derived.Test.YtaoddenadfmdbaaLstW
import Derived.Test.YtaoddenadfmdbaaTbM
import Derived.Test.YtaoddenadfmdbaaCall
import Derived.Test.YtaoddenadfmdbaaEtdW
import Derived.Test.YtaoddenadfmdbaaRsdW
namespace Go.Proofs.Ytaoddenadfmdbaa
open Go.RowKit Go.Maps
theorem Try.infoIntTab : (Try.prog.info? 43).map (fun i => (i.zero, i.size, i.bytes)) = some (some (.slice none 0 0), 1, 24) := by kernel_rfl
/-- One number of a table in memory, and of what type its blocks are. -/
def TabT (W : World) (g m x j v : Nat) : Prop := ∃ gx cx, W.cell? ⟨g, x, none⟩ = some (.slice (some ⟨gx, 0, none⟩) (m + 1) cx) ∧ W.cell? ⟨gx, j, none⟩ = some (.int .i64 (v : Int)) ∧ (∃ c, W.heap[g]? = some (.cells c 26 (0, 0))) ∧ (∃ c, W.heap[gx]? = some (.cells c 3 (0, 0)))
theorem TabT.at {W : World} {g m x j v : Nat} (h : TabT W g m x j v) : TabAt W g m x j v := by
  obtain ⟨gx, cx, h1, h2, _⟩ := h
  exact ⟨gx, cx, h1, h2⟩
theorem TabT.block {W W' : World} {g m x j v : Nat} (h : TabT W g m x j v) (he : ∀ (b : Nat) (c : Array Value) (t : TypeId), t = 26 ∨ t = 3 → W.heap[b]? = some (Obj.cells c t (0, 0)) → W'.heap[b]? = W.heap[b]?) : TabT W' g m x j v := by
  obtain ⟨gx, cx, h1, h2, ⟨c1, h3⟩, ⟨c2, h4⟩⟩ := h
  have e1 := he g c1 _ (.inl rfl) h3
  have e2 := he gx c2 _ (.inr rfl) h4
  exact ⟨gx, cx, (World.cell?_of_block (a := ⟨g, x, none⟩) e1).trans h1, (World.cell?_of_block (a := ⟨gx, j, none⟩) e2).trans h2, ⟨c1, e1.trans h3⟩, ⟨c2, e2.trans h4⟩⟩
theorem TabT.below {W W' : World} {g m x j v : Nat} (hb : Below W.heap.size W W') (h : TabT W g m x j v) : TabT W' g m x j v := h.block fun b _ _ _ hc => hb.block b (lt_of_block hc)
theorem TabT.grown {W W' : World} {g m x j v b0 r : Nat} {rv : Value} {tabs : List Value} (h : TabT W g m x j v) (ho : W.ownsRow b0 43 1 rv r tabs) (hg : W.grownBy W' rv.ownBlock) : TabT W' g m x j v := h.block fun b c t ht hc => hg.block b (lt_of_block hc) fun e => by
  rcases ho.2 with ⟨rfl, _⟩ | ⟨g2, cap, cur, rfl, _, hh, _⟩
  · cases e
  · have e2 : b = g2 := by
      have e' : some b = some g2 := e
      injection e'
    subst e2
    rw [hc] at hh
    injection hh with hh
    injection hh with _ hh
    rcases ht with rfl | rfl <;> exact absurd hh (by decide)
theorem TabT.setTop {W : World} {g m x x' j v np : Nat} {F : Nat → Value} (h : TabT W g m x' j v) (hF : W.rowIs g 26 np F) (hne : x ≠ x') (u : Value) : TabT (W.setCell ⟨g, x, none⟩ u) g m x' j v := by
  obtain ⟨gx, cx, h1, h2, ⟨c1, h3⟩, ⟨c2, h4⟩⟩ := h
  have hgx : g ≠ gx := fun e => by
    subst e
    rw [h3] at h4
    injection h4 with h4
    injection h4 with _ h4
    exact absurd h4 (by decide)
  obtain ⟨c3, h5, _⟩ := hF.set x u
  refine ⟨gx, cx, cell_set_far h1 (.inr hne), cell_set_far h2 (.inl hgx), ⟨c3, h5⟩, ⟨c2, ?_⟩⟩
  have e1 : (W.setCell ⟨g, x, none⟩ u).heap[gx]? = W.heap[gx]? := by simp [World.setCell, Array.getElem?_modify, hgx]
  rw [e1]; exact h4
theorem Sx.srb_ne {cs : List Cl} {par : List Int} {n B : Nat} {A2 A3 : Option Addr} {c2 c3 gq cq : Nat} {D : DataW Unit} {K : Nat} {rv : Value} {W : World} (h : Sx cs par n B A2 A3 c2 c3 gq cq D K rv W) : gq ≠ B + 1 := fun e => by
  have h1 := (h.ps 0 (by rw [posL_len]; omega)).2
  have h2 := h.s.cells.c1
  rw [e] at h1
  rw [show (0 * 2 + 1) = 1 from rfl, h2] at h1
  cases h1
/-- The tables are put into the search. -/
theorem Sx.setR {cs : List Cl} {par : List Int} {n B : Nat} {A2 A3 : Option Addr} {c2 c3 gq cq : Nat} {D : DataW Unit} {K : Nat} {rv rv2 : Value} {W : World} (h : Sx cs par n B A2 A3 c2 c3 gq cq D K rv W) : Sx cs par n B A2 A3 c2 c3 gq cq D K rv2 (W.setCell ⟨B + 1, 5, none⟩ rv2) := by
  have hb : Below B W (W.setCell ⟨B + 1, 5, none⟩ rv2) := (Below.refl _ _).setCell (p := ⟨B + 1, 5, none⟩) (by simp) _
  have hne := h.srb_ne
  refine ⟨h.s.set5, h.cl.below hb, h.pa.below hb, fun x hx => ?_, h.ix, h.mp.setCell (a := ⟨B + 1, 5, none⟩) (by simp) _, h.kb, h.kq, by simpa [World.setCell] using h.kw⟩
  obtain ⟨h1, h2⟩ := h.ps x hx
  exact ⟨cell_set_far h1 (.inl (Ne.symm hne)), cell_set_far h2 (.inl (Ne.symm hne))⟩
theorem Sx.gb {cs : List Cl} {par : List Int} {n B : Nat} {A2 A3 : Option Addr} {c2 c3 gq cq : Nat} {D : DataW Unit} {K : Nat} {rv : Value} {W W' : World} (h : Sx cs par n B A2 A3 c2 c3 gq cq D K rv W) {b : Option Nat} (hg : W.grownBy W' b) (hb : ∀ j, b = some j → K ≤ j) : Sx cs par n B A2 A3 c2 c3 gq cq D K rv W' :=
  h.keep ⟨hg.os, hg.tape, hg.output, hg.size, fun j hj => hg.block j (Nat.lt_of_lt_of_le hj h.kw) fun e => by have := hb j e.symm; omega⟩
set_option maxRecDepth 100000 in
set_option maxHeartbeats 8000000 in
theorem prepare_any {cs : List Cl} {par : List Int} {n B : Nat} {A2 A3 : Option Addr} {c2 c3 gq cq : Nat} {D : DataW Unit} {K : Nat} (hc : CsOk cs n) (hpl : par.length ≤ 100) (hsum : sumM cs ≤ 100) (w : World) (h : Sx cs par n B A2 A3 c2 c3 gq cq D K (.slice none 0 0) w) :
    Calls Try.prog 37 #[.pointer (some ⟨B + 1, 0, none⟩)] w fun e w' => e = .returned (.tuple #[]) ∧ (∃ (rv : Value) (T : Nat → Nat → Nat → Nat), Sx cs par n B A2 A3 c2 c3 gq cq D K rv w' ∧ RsAt w' rv (sumM cs + 1) (posL cs).length par.length T ∧ TOk cs par (sumM cs) T ∧ (∀ r x j, T r x j ≤ 1048576)) ∧ Gb (B + 1) w w' := by
  have hnp := hc.np
  have hpo := posL_len cs
  obtain ⟨m, hm⟩ : ∃ m, m = par.length := ⟨_, rfl⟩
  obtain ⟨lst, hls⟩ : ∃ k, k = num cs cs.length 0 := ⟨_, rfl⟩
  obtain ⟨su, hsu⟩ : ∃ k, k = sumM cs := ⟨_, rfl⟩
  obtain ⟨np, hnpe⟩ : ∃ np, np = (posL cs).length := ⟨_, rfl⟩
  have HTO := hid (total_any (par := par) (B := B) (A2 := A2) (A3 := A3) (c2 := c2) (c3 := c3) (gq := gq) (cq := cq) (D := D) (K := K) (rv := .slice none 0 0) hc w h)
  have HLA := hid fun (rv : Value) (W : World) (hW : Sx cs par n B A2 A3 c2 c3 gq cq D K rv W) => last_any (cs := cs) (by omega) W hW
  have pc2 := h.s.cells.c2; have pc3 := h.s.cells.c3
  have HC := hid hc; have HX := hid h
  rw [← hls, ← hnpe] at hpo
  rw [← hsu] at HTO hsum
  rw [← hls] at HLA
  rw [← hm] at pc2 hpl
  rw [← hnpe] at pc3 hnp
  have HM := hid hm; have HLS := hid hls; have HSU := hid hsu; have HNP := hid hnpe; have HPO := hid hpo
  have hmk : ∀ W, (Instr.makeSlice 43 (.int .i64 (np : Int)) (.int .i64 (np : Int))).run Try.prog W = .ok (.slice (some ⟨W.heap.size, 0, none⟩) np np) (W.alloc (.cells (madeCells #[.slice none 0 0] np) 26)) := fun W => by
    have := run_make_row' (P := Try.prog) 43 26 (.slice none 0 0) 24 Try.underlying43 Try.infoIntRow rfl .i64 .i64 np (by omega) (by omega) W
    simpa using this
  have hmk2 : ∀ W, (Instr.makeSlice 26 (.int .i64 ((m : Int) + 1)) (.int .i64 ((m : Int) + 1))).run Try.prog W = .ok (.slice (some ⟨W.heap.size, 0, none⟩) (m + 1) (m + 1)) (W.alloc (.cells (madeCells #[.int .i64 0] (m + 1)) 3)) := fun W => by
    have := run_make_row' (P := Try.prog) 26 3 (.int .i64 0) 8 Try.underlying26 Try.infoInt rfl .i64 .i64 (m + 1) (by omega) (by omega) W
    simpa using this
  rw [← hnpe, ← hm, ← hsu]
  clear hm hls hsu hnpe hpo hc h
  go_enter Try.func37, Try.ntmps37
  go_upto_region 2 with (first | (go_at_call 40; refine HTO.out.mono ?_; rintro e w1 ⟨rfl, hb1⟩; have HB1 := hid hb1; clear hb1))
  clear HTO pc2 pc3
  go_loopw [15] (fun iv wr => ∃ (r : Nat) (rv : Value) (tabs : List Value) (T : Nat → Nat → Nat → Nat), r ≤ su + 1 ∧ iv = .int .i64 (r : Int) ∧ Hid (Sx cs par n B A2 A3 c2 c3 gq cq D K rv wr) ∧ Hid (wr.ownsRow w.heap.size 43 1 rv r tabs) ∧ Hid (∀ q, q < r → ∃ g' c', tabs[q]? = some (.slice (some ⟨g', 0, none⟩) np c') ∧ ∀ x j, x < np → j ≤ m → TabT wr g' m x j (T q x j)) ∧ Hid (FromT cs par r T) ∧ Hid (∀ q x j, T q x j ≤ 1048576) ∧ Hid (Gb (B + 1) w wr)) (fun iv _ => su + 1 - (intOf iv).toNat)
  case atStart => exact ⟨0, .slice none 0 0, [], fun _ _ _ => 0, by omega, rfl, hid (HX.out.below HB1.out), hid (World.ownsRow_nil _ _ _ _), hid fun q hq => by omega, hid fun r x j hr => by omega, hid fun _ _ _ => Nat.zero_le _, hid (Gb.of HB1.out)⟩
  case round =>
    obtain ⟨r, rv, tabs, T, hr, rfl, HS, HO, HT, HF, HB, HG⟩ := hrel
    by_cases hrs : r < su + 1
    · have q0 : (r : Int) < (su : Int) + 1 := by omega
      obtain ⟨wo, rfl⟩ : ∃ wo : World, wo = wr := ⟨_, rfl⟩
      have pc3 := HS.out.s.cells.c3
      rw [← HNP.out] at pc3
      obtain ⟨g, hg⟩ : ∃ g, g = wo.heap.size := ⟨_, rfl⟩
      obtain ⟨w1, hw1⟩ : ∃ W, W = wo.alloc (.cells (madeCells #[.slice none 0 0] np) 26) := ⟨_, rfl⟩
      have hb1 : Below wo.heap.size wo w1 := by rw [hw1]; exact (Below.refl _ _).alloc (Nat.le_refl _) _
      have HR1 := hid (show w1.rowIs g 26 np (fun _ => .slice none 0 0) by rw [hw1, hg]; exact World.rowIs_made wo (.slice none 0 0) np 26)
      have HLL := hid (HLA.out rv w1 (HS.out.below hb1))
      have HB2 := hid hb1; have HG0 := hid hg
      go_upto_region 5 with (fail)
      rw [← hw1, ← hg]
      clear hw1 hb1 hg
      go_upto_region 6 with (first | (go_at_call 52; refine HLL.out.mono ?_; rintro e wz ⟨rfl, hwz⟩; subst wz))
      have HBL := hid fun (W : World) (hW : Below wo.heap.size wo W) => (show Sx cs par n B A2 A3 c2 c3 gq cq D K rv W from HS.out.below hW)
      have HPV := hid fun (W : World) (hW : Below wo.heap.size wo W) (x : Nat) => (show 0 < r → ∃ gr cr g' c', rv = .slice (some ⟨gr, 0, none⟩) r cr ∧ W.cell? ⟨gr, r - 1, none⟩ = some (.slice (some ⟨g', 0, none⟩) (posL cs).length c') ∧ (x + 1 < (posL cs).length → ∀ j', j' ≤ par.length → TabAt W g' par.length (x + 1) j' (T (r - 1) (x + 1) j')) from by
        intro h0
        obtain ⟨g', c', h1, h2⟩ := HT.out (r - 1) (by omega)
        rcases HO.out.2 with ⟨_, h3⟩ | ⟨gr, cap, cur, h3, _⟩
        · omega
        · have h4 := HO.out.cells (g := gr) (by rw [h3]; rfl) (r - 1) _ h1
          simp only [Addr.add_lit, Nat.zero_add] at h4
          refine ⟨gr, cap, g', c', h3, ?_, fun h5 j' h6 => ?_⟩
          · rw [← HNP.out]; exact cell_keep hW h4
          · rw [← HM.out]; exact ((h2 (x + 1) j' (by rw [HNP.out]; exact h5) (by rw [HM.out]; exact h6)).below hW).at)
      have hl0 : (lst : Int) = (np : Int) - 1 := by have := HPO.out; omega
      rw [hl0]
      clear hl0 HLL
      go_loopw [5, 6] (fun xv _ wr => ∃ (q : Nat) (tb : Nat → Nat → Nat), q ≤ np ∧ xv = .int .i64 ((q : Int) - 1) ∧ Hid (∀ x j, q ≤ x → x < np → j ≤ m → TabT wr g m x j (tb x j)) ∧ Hid (FromX cs par tb (T (r - 1)) r q) ∧ Hid (∀ x j, tb x j ≤ 1048576) ∧ Hid (∃ F, wr.rowIs g 26 np F) ∧ Hid (Below wo.heap.size wo wr)) (fun xv _ _ => (intOf xv + 1).toNat)
      case atStart => exact ⟨np, fun _ _ => 0, by omega, rfl, hid fun x j h1 h2 => by omega, hid fun x j h1 h2 => by rw [← HNP.out] at h2; omega, hid fun _ _ => Nat.zero_le _, hid ⟨_, HR1.out⟩, HB2⟩
      case round =>
        obtain ⟨q, tb, hq, rfl, HTB, HFX, HTU, HRW, HW⟩ := hrel
        obtain ⟨wx, rfl⟩ : ∃ wo : World, wo = wr := ⟨_, rfl⟩
        cases q with
        | zero =>
          rw [show (((0 : Nat) : Int) - 1) = -1 from rfl]
          have e1 : decide ((0 : Int) ≤ (-1 : Int)) = false := by decide
          obtain ⟨A9, c9, hrv⟩ := own_slice HO.out
          subst hrv
          have HSX := hid (HBL.out wx HW.out)
          have pc5 := HSX.out.s.cells.c5
          have HOX := hid (own_keep HO.out HW.out)
          have hA : Below wx.heap.size wx (wx.alloc (.cells #[.slice (some ⟨g, 0, none⟩) np np] 43)) := (Below.refl _ _).alloc (Nat.le_refl _) _
          have HA := hid hA
          have HSA := hid (HSX.out.below hA)
          have HGW := hid (HG.out.trans (Gb.of HW.out))
          have hwz : w.heap.size ≤ wx.heap.size := HGW.out.size
          have HKW := hid HX.out.kw; have HKB := hid HX.out.kb
          have HOA := hid (HOX.out.alloc (.cells #[.slice (some ⟨g, 0, none⟩) np np] 43))
          have HLT := hid fun (k : Nat) (e : (Value.slice A9 r c9).ownBlock = some k) => (HOX.out.lt k e).1
          have HTA := hid fun (x j : Nat) (h1 : x < np) (h2 : j ≤ m) => (HTB.out x j (Nat.zero_le _) h1 h2).below hA
          have hr10 : r ≤ 10000000000 := by omega
          clear hA
          go_wp2_with (first
            | (at_builtin; go_loud (refine app_elem rfl (.tmp 57) (.tmp 59) Try.underlying93 Try.infoIntTab rfl (by decide) (by decide) rfl w.heap.size _ r tabs rfl HOA.out ⟨wx.heap.size, 0, none⟩ [.slice (some ⟨g, 0, none⟩) np np] rfl rfl (cell_news wx [.slice (some ⟨g, 0, none⟩) np np] _) (by simp [Value.oneCell']) hr10 (by simp; omega) ?_); intro v5 w5 ho5 hg5; obtain ⟨A10, c10, rfl⟩ := own_slice ho5; have HO5 := hid ho5; have HG5 := hid hg5; have HS5 := hid (HSA.out.gb hg5 (fun k e => Nat.le_trans HKW.out (HLT.out k e))); have y5 := HS5.out.s.cells.c5; have z5 := HS5.out.s.cells.z5; clear ho5 hg5))
          have hTT : ∀ g' x j v, TabT (wx.alloc (.cells #[.slice (some ⟨g, 0, none⟩) np np] 43)) g' m x j v → TabT (w5.setCell ⟨B + 1, 5, none⟩ (.slice A10 (r + 1) c10)) g' m x j v := fun g' x j v h => (h.grown HOA.out HG5.out).block fun b c t ht hc => by
            have hne : B + 1 ≠ b := fun e => by
              subst e
              have h1 := HS5.out.s
              unfold Srb at h1
              rw [h1] at hc
              injection hc with hc
              injection hc with _ hc
              rcases ht with rfl | rfl <;> exact absurd hc (by decide)
            simp [World.setCell, Array.getElem?_modify, hne]
          have HTT := hid hTT
          clear hTT
          go_roundw
          case rel =>
            refine ⟨r + 1, .slice A10 (r + 1) c10, _, combT T r tb, by omega, by go_num, hid HS5.out.setR, hid (ownsRow_setCell_other HO5.out (a := ⟨B + 1, 5, none⟩) (fun he => by have h1 := (HO5.out.lt _ he).1; have := HKW.out; have := HKB.out; simp only [] at h1; omega) _), hid fun q hq => ?_, hid (HF.out.step HFX.out), hid fun q x j => ?_, hid (Gb.app HGW.out HA.out HG5.out HLT.out ⟨B + 1, 5, none⟩ rfl _)⟩
            · have hlen : tabs.length = r := by have := HO.out.1; simpa using this
              by_cases e : q = r
              · subst e
                refine ⟨g, np, by rw [List.getElem?_append_right (by omega)]; simp [hlen], fun x j h1 h2 => ?_⟩
                rw [combT_self]
                exact HTT.out _ _ _ _ (HTA.out x j h1 h2)
              · obtain ⟨g', c', h1, h2⟩ := HT.out q (by omega)
                refine ⟨g', c', by rw [List.getElem?_append_left (by omega)]; exact h1, fun x j h3 h4 => ?_⟩
                rw [combT_other e]
                exact HTT.out _ _ _ _ (((h2 x j h3 h4).below HW.out).below HA.out)
            · by_cases e : q = r
              · subst e; rw [combT_self]; exact HTU.out x j
              · rw [combT_other e]; exact HB.out q x j
          case measure => simp [intOf]; omega
        | succ x =>
          rw [show (((x + 1 : Nat) : Int) - 1) = (x : Int) by omega]
          have hxn : x < np := by omega
          obtain ⟨Fr, hFr⟩ := HRW.out
          have s1 := hFr.cell hxn
          have s2 := hFr.frozen x
          have hgl := hFr.lt
          have q1 : (x : Int) < (np : Int) := by omega
          obtain ⟨gx, hgx⟩ : ∃ k, k = wx.heap.size := ⟨_, rfl⟩
          have HFR := hid hFr
          clear hFr
          go_upto_region 9 with (fail)
          obtain ⟨ws, hws⟩ : ∃ W, W = wx.setCell ⟨g, x, none⟩ (.slice (some ⟨wx.heap.size, 0, none⟩) (m + 1) (m + 1)) := ⟨_, rfl⟩
          rw [← hws]
          have hzs : ws.heap.size = gx := by rw [hws, hgx]; simp [World.setCell]
          have HZS := hid hzs
          have HTS := hid (show ∀ x' j, x + 1 ≤ x' → x' < np → j ≤ m → TabT ws g m x' j (tb x' j) from fun x' j h1 h2 h3 => by rw [hws]; exact (HTB.out x' j h1 h2 h3).setTop HFR.out (by omega) _)
          have HFS := hid (show ∃ F, ws.rowIs g 26 np F ∧ F x = .slice (some ⟨gx, 0, none⟩) (m + 1) (m + 1) from ⟨_, by rw [hws]; exact HFR.out.set x _, by rw [hgx]; simp⟩)
          have HWS := hid (show Below wo.heap.size wo ws by rw [hws]; exact HW.out.setCell (p := ⟨g, x, none⟩) (by rw [HG0.out]; exact Nat.le_refl _) _)
          have HR2 := hid (show (ws.alloc (.cells (madeCells #[.int .i64 0] (m + 1)) 3)).rowIs gx 3 (m + 1) (fun j => .int .i64 (((fun _ => 0 : Nat → Nat) j : Nat) : Int)) by
            have h1 := World.rowIs_made ws (.int .i64 0) (m + 1) 3
            rw [hzs] at h1
            exact h1)
          have HB3 := hid (show Below ws.heap.size ws (ws.alloc (.cells (madeCells #[.int .i64 0] (m + 1)) 3)) from (Below.refl _ _).alloc (Nat.le_refl _) _)
          have HGX := hid (show g < gx by rw [hgx]; exact hgl)
          clear hws hzs hgx s1 s2 hgl HFR
          go_wp2_with fail
          go_loopw [6] (fun jv wr => ∃ (p : Nat) (f : Nat → Nat), p ≤ m + 1 ∧ jv = .int .i64 ((p : Int) - 1) ∧ Hid (wr.rowIs gx 3 (m + 1) (fun j => .int .i64 ((f j : Nat) : Int))) ∧ Hid (FromJ cs par tb (T (r - 1)) r x p f) ∧ Hid (∀ j, f j ≤ 1048576) ∧ Hid (Below ws.heap.size ws wr)) (fun jv _ => (intOf jv + 1).toNat)
          case atStart => exact ⟨m + 1, fun _ => 0, by omega, by go_num, HR2, hid fun j h1 h2 => by rw [← HM.out] at h2; omega, hid fun _ => Nat.zero_le _, HB3⟩
          case round =>
            obtain ⟨p, f, hp, rfl, HRX, HFJ, HFU, HBS⟩ := hrel
            cases p with
            | zero =>
              rw [show (((0 : Nat) : Int) - 1) = -1 from rfl]
              obtain ⟨FS, hF1, hF2⟩ := HFS.out
              have hF3 := hF1.of_block (HBS.out.block g (by rw [HZS.out]; exact HGX.out))
              go_wp2_with fail
              go_roundw
              case rel =>
                refine ⟨x, comb tb x f, by omega, by go_num, hid fun x' j h1 h2 h3 => ?_, hid (HFX.out.step HFJ.out), hid fun x' j => ?_, hid ⟨_, hF3⟩, hid (HWS.out.trans (HBS.out.mono HWS.out.size))⟩
                · by_cases e : x' = x
                  · subst e
                    rw [comb_self]
                    have hF4 := hF3
                    obtain ⟨c1, h5, _⟩ := hF4
                    have hF5 := HRX.out
                    obtain ⟨c2, h6, _⟩ := hF5
                    exact ⟨gx, m + 1, by rw [hF3.cell h2, hF2], HRX.out.cell (by omega), ⟨c1, h5⟩, ⟨c2, h6⟩⟩
                  · rw [comb_other e]
                    exact (HTS.out x' j (by omega) h2 h3).below HBS.out
                · by_cases e : x' = x
                  · subst e; rw [comb_self]; exact HFU.out j
                  · rw [comb_other e]; exact HTU.out x' j
              case measure => simp [intOf]
            | succ j =>
              rw [show (((j + 1 : Nat) : Int) - 1) = (j : Int) by omega]
              have e1 : decide ((0 : Int) ≤ (j : Int)) = true := decide_eq_true (by omega)
              obtain ⟨FS, hF1, hF2⟩ := HFS.out
              have hF3 := (hF1.of_block (HBS.out.block g (by rw [HZS.out]; exact HGX.out))).cell hxn
              rw [hF2] at hF3
              have q2 : (j : Int) < (m : Int) + 1 := by omega
              have hjm : j ≤ m := by omega
              have HLE := hid (least_any HC.out (par := par) (by rw [← HM.out]; omega) (comb tb x f) (T (r - 1)) (fun a b => ⟨by
                by_cases e : a = x
                · subst e; rw [comb_self]; exact HFU.out b
                · rw [comb_other e]; exact HTU.out a b, HB.out _ _ _⟩) g np r x j (by rw [← HNP.out]; exact hxn) (by rw [← HM.out]; exact hjm) (by omega) wr.drew (HBL.out _ (HWS.out.trans (HBS.out.drew.mono HWS.out.size))) (fun hi => by
                  have h1 := num_gt (by rw [← HNP.out]; exact hxn) hi
                  have h2 := num_lt (next_ok hi)
                  rw [comb_other (by omega), ← HM.out]
                  exact ((HTS.out _ j (by omega) (by rw [HNP.out]; exact h2) hjm).below HBS.out.drew).at) (fun hj => by
                  rw [← HM.out] at hj ⊢
                  rw [comb_self]
                  exact ⟨gx, m + 1, hF3, HRX.out.cell (by omega)⟩) (HPV.out _ (HWS.out.trans (HBS.out.drew.mono HWS.out.size)) x))
              rw [← HNP.out] at HLE
              clear hF1 hF2
              go_upto_region 12 with (fail)
              refine region_call2 [0, 1, 2, 3, 4, 5, 6, 7, 8, 9] [10] [11] [12] (fun W => W.cell? ⟨g, x, none⟩ = some (.slice (some ⟨gx, 0, none⟩) (m + 1) (m + 1))) (by kernel_rfl) (by kernel_rfl) (fun d _ _ _ _ h => by cases d <;> exact h) hF3 ?_
              apply Exists.intro
              simp only [List.map_cons, List.map_nil, List.getD_cons_zero, List.getD_cons_succ]
              refine ⟨⟨_, Or.inl ⟨by rfl, fun W hW => by go_simp; rfl⟩, _, Or.inl ⟨by rfl, fun W hW => by go_simp; rfl⟩, .pointer (some ⟨g, x, none⟩), Or.inl ⟨by rfl, fun W hW => by go_simp⟩, .slice (some ⟨gx, 0, none⟩) (m + 1) (m + 1), Or.inl ⟨by rfl, fun W hW => by have p := hW; go_simp⟩, _, Or.inl ⟨by rfl, fun W hW => by go_simp; rfl⟩, _, Or.inl ⟨by rfl, fun W hW => by go_simp; rfl⟩, _, Or.inl ⟨by rfl, fun W hW => by go_simp; rfl⟩, _, Or.inl ⟨by rfl, fun W hW => by go_simp; rfl⟩, _, Or.inl ⟨by rfl, fun W hW => by go_simp; rfl⟩, _, Or.inl ⟨by rfl, fun W hW => by go_simp; rfl⟩, rfl⟩, ?_⟩
              simp only [Act.put, List.setIfInBounds_toArray, List.set_cons_zero, List.set_cons_succ]
              refine wpMid_step rfl (fun K9 hK => ?_)
              go_simp
              go_wp2_with (first | (go_at_call 53; refine HLE.out.mono ?_; rintro e w7 ⟨⟨v, rfl, hv⟩, h7⟩; have H7 := hid ((Below.refl wr.heap.size wr).drew.trans h7); have HV := hid hv; clear h7 hv))
              have hF7 := cell_keep H7.out hF3
              refine hK.out _ _ hF7 ?_
              clear hK K9
              simp only [wpMid]
              refine ⟨hF7, _, ⟨.pointer (some ⟨gx, j, none⟩), Or.inl ⟨by rfl, fun W hW => by go_simp⟩, rfl⟩, ?_⟩
              simp only [Act.put, List.setIfInBounds_toArray, List.set_cons_zero, List.set_cons_succ]
              have HR7 := hid (HRX.out.of_block (H7.out.block gx HRX.out.lt))
              have s1 := HR7.out.cell (i := j) (by omega)
              have s2 := HR7.out.frozen j
              go_wp2_with fail
              go_roundw
              case rel =>
                refine ⟨j, upd f j v, by omega, by go_num, hid ((HR7.out.set j _).congr fun b _ => ?_), hid (FromJ.step (by rw [← HNP.out]; exact hxn) HFJ.out HV.out), hid fun b => ?_, hid ((HBS.out.trans (H7.out.mono HBS.out.size)).setCell (p := ⟨gx, j, none⟩) (by rw [HZS.out]; exact Nat.le_refl _) _)⟩
                · by_cases e : b = j
                  · subst e; rw [upd_self]; try simp
                  · rw [upd_other e]; try simp [e]
                · by_cases e : b = j
                  · subst e; rw [upd_self]; exact HV.out.bd
                  · rw [upd_other e]; exact HFU.out b
              case measure => (simp [intOf]; try omega)
    · obtain rfl : r = su + 1 := by omega
      have q0 : decide (((su + 1 : Nat) : Int) < (su : Int) + 1) = false := decide_eq_false (by omega)
      go_wp2_with fail
      go_end0
      refine ⟨rfl, ⟨rv, T, HS.out, ?_, ?_, HB.out⟩, HG.out⟩
      · rcases HO.out.2 with ⟨_, h3⟩ | ⟨gr, cap, cur, h3, _⟩
        · omega
        · refine ⟨gr, cap, h3, fun q hq => ?_⟩
          obtain ⟨g', c', h1, h2⟩ := HT.out q hq
          have h4 := HO.out.cells (g := gr) (by rw [h3]; rfl) q _ h1
          simp only [Addr.add_lit, Nat.zero_add] at h4
          exact ⟨g', c', h4, fun x j hx hj => (h2 x j hx hj).at⟩
      · rw [HSU.out]
        have h9 := HF.out
        rw [HSU.out] at h9
        exact h9.tok
end Go.Proofs.Ytaoddenadfmdbaa
