/- groups.Flat. -/
import Derived.Test.YtddbnggficlcfaaFlatL
import Derived.Test.YtddbnggficlcfaaTextL
import Derived.Test.YtddbnggficlcfaaLinesLaw
import Derived.Test.YtddbnggficlcfaaLinesE
import Derived.Test.YtddbnggficlcfaaRKids
import Derived.Test.YtddbnggficlcfaaChk1
namespace Go.Proofs.Ytddbnggficlcfaa
open Go.RowKit Go.Shelf
noncomputable def flaL (P : Int) (ss : List Sg) (l : List Nd) : List Nd := if chkE P ss l = 0 then fltL l else []
theorem flaL_bad {P : Int} {ss : List Sg} {l : List Nd} (h : chkE P ss l ≠ 0) : flaL P ss l = [] := if_neg h
theorem flaL_ok {P : Int} {ss : List Sg} {l : List Nd} (h : chkE P ss l = 0) : flaL P ss l = fltL l := if_pos h
theorem bnx4 {w1 w w' : World} (h : Below w1.heap.size w1 w) (hb : Below w.heap.size w w') : Below w1.heap.size w1 w' := h.trans (hb.mono h.size)
theorem spans_le2 (l : List Nd) : (ringsOf l).length ≤ l.length := by
  unfold ringsOf
  have := rgs_len (l := l) (l.length + 1) (-1) 0 (by omega) (by omega)
  have e : span l (-1) = l.length := if_neg (by omega)
  rwa [e] at this
set_option maxRecDepth 100000 in
set_option maxHeartbeats 8000000 in
theorem flatE_any (P : Int) (ss : List Sg) (l : List Nd) (hN : ss.length ≤ 1000000) (hv : ∀ s ∈ ss, s.vals.length ≤ 1000000 ∧ s.vals.length ≤ s.vc) (hn : l.length ≤ 1000000) (A A2 : Option Addr) (c c2 : Nat) (w : World) (rs : Sgs w w.heap.size A ss) (rn : Nds w w.heap.size A2 l) :
    Calls Try.prog 52 #[.agg #[.int .i64 P, .slice A ss.length c], .agg #[.slice A2 l.length c2]] w (TxtPost (chkE P ss l) (flaL P ss l) w) := by
  obtain ⟨w1, hw1⟩ : ∃ w1, w1 = ((w.alloc (.cells #[.int .i64 P, .slice A ss.length c] 24)).alloc (.cells #[.slice A2 l.length c2] 27)).alloc (.cells #[.slice none 0 0] 27) := ⟨_, rfl⟩
  have hb1 : Below w.heap.size w w1 := by rw [hw1]; exact (((Below.refl _ _).alloc (Nat.le_refl _) _).alloc (by simp) _).alloc (by simp; omega) _
  have hz1 : w1.heap.size = w.heap.size + 3 := by rw [hw1]; simp
  have c0 : w1.cell? ⟨w.heap.size, 0, none⟩ = some (.int .i64 P) := by rw [hw1]; exact cell_old (cell_old (cell_here rfl rfl))
  have c1 : w1.cell? ⟨w.heap.size, 1, none⟩ = some (.slice A ss.length c) := by rw [hw1]; exact cell_old (cell_old (cell_here rfl rfl))
  have c3 : w1.cell? ⟨w.heap.size + 1, 0, none⟩ = some (.slice A2 l.length c2) := by rw [hw1]; exact cell_old (cell_here (by simp) rfl)
  have c4 : w1.cell? ⟨w.heap.size + 2, 0, none⟩ = some (.slice none 0 0) := by rw [hw1]; exact cell_here (by simp) rfl
  have z4 : w1.frozen? ⟨w.heap.size + 2, 0, none⟩ = false := by rw [hw1]; exact free_here (by simp)
  have HCK := hid (check_any P ss l hN hv hn A A2 c c2 w1 ((rs.below hb1).more (by omega)) ((rn.below hb1).more (by omega)))
  have HTB := hid fun (_ : chkE P ss l = 0) => (show w1.heap[w.heap.size + 1]? = some (.cells #[.slice A2 l.length c2] 27 (0, 0)) from by rw [hw1]; exact heap_od (heap_nw (by simp)))
  have HOR := hid fun (h : chkE P ss l = 0) (W : World) (hb : Below w.heap.size w W) (tb : Nat) (ht : W.heap[tb]? = some (.cells #[.slice A2 l.length c2] 27 (0, 0))) => flatOrder_any l hn (good_hon h) A2 c2 W.heap.size tb W (Nat.le_refl _) ((rn.below hb).more hb.size) ht
  have HRI := hid fun (h : chkE P ss l = 0) (W : World) (hb : Below w.heap.size w W) => rings_any l hn (good_hon h) A2 c2 W.heap.size W (Nat.le_refl _) ((rn.below hb).more hb.size)
  have HRO := hid fun (h : chkE P ss l = 0) => rings_ok (good_of (chkE_zero h).2.2.1).wf (good_of (chkE_zero h).2.2.1).deps (fun i hi => ((chkE_zero h).2.2.2 i hi).2.1)
  have hlv : (lvN l).length ≤ l.length := by unfold lvN; rw [List.length_map]; exact lvs_all _
  have hrl := spans_le2 l
  have m1 := flaL_bad (P := P) (ss := ss) (l := l); have m2 := flaL_ok (P := P) (ss := ss) (l := l)
  generalize flaL P ss l = L at m1 m2 ⊢
  generalize chkE P ss l = CE at HCK m1 m2 HTB HOR HRI HRO
  have M1 := hid m1; have M2 := hid m2
  clear m1 m2
  obtain ⟨N, hNN⟩ : ∃ N, N = ss.length := ⟨_, rfl⟩
  rw [← hNN] at HCK c1 hw1 hN ⊢
  obtain ⟨n, hnn⟩ : ∃ n, n = l.length := ⟨_, rfl⟩
  rw [← hnn] at HCK c3 hw1 hn HTB HOR HRI ⊢
  try rw [← hnn] at M2
  rw [← hnn] at hlv hrl
  have HW1 := hid hw1; have HB1 := hid hb1; have HR := hid rn; have HRS := hid rs; have HNN := hid hnn; have HNS := hid hNN
  have hzz : w.heap.size + 1 < w1.heap.size := by omega
  have hzy : w.heap.size + 2 < w1.heap.size := by omega
  have hzx : w.heap.size < w1.heap.size := by omega
  have HC1 := hid fun (wr : World) (h : Below w1.heap.size w1 wr) => (h.cell (p := ⟨w.heap.size, 1, none⟩) hzx).trans c1
  have HC3 := hid fun (wr : World) (h : Below w1.heap.size w1 wr) => (h.cell (p := ⟨w.heap.size + 1, 0, none⟩) hzz).trans c3
  have HC4 := hid fun (wr : World) (h : Below w1.heap.size w1 wr) => (h.cell (p := ⟨w.heap.size + 2, 0, none⟩) hzy).trans c4
  have HZ4 := hid fun (wr : World) (h : Below w1.heap.size w1 wr) => (h.frozen (p := ⟨w.heap.size + 2, 0, none⟩) hzy).trans z4
  have HW : Hid (∀ wr, Below w1.heap.size w1 wr → Below w.heap.size w wr) := fun wr h => hb1.trans (h.mono (by omega))
  clear hw1 hb1 hz1 rs rn hv hnn hNN
  go_enter Try.func52, Try.ntmps52
  go_upto_region 1 with (fail)
  simp only [Nat.add_assoc, Nat.reduceAdd]
  rw [← HW1.out]
  clear HW1
  obtain ⟨B0, hB0⟩ : ∃ B0, B0 = w.heap.size := ⟨_, rfl⟩
  obtain ⟨B1, hB1⟩ : ∃ B1, B1 = B0 + 1 := ⟨_, rfl⟩
  obtain ⟨B2, hB2⟩ : ∃ B2, B2 = B0 + 2 := ⟨_, rfl⟩
  rw [← hB0, ← hB1] at c3 HC3 hzz HTB
  rw [← hB0, ← hB2] at c4 z4 HC4 HZ4 hzy
  rw [← hB0] at c0 c1 HC1 hzx
  have HB0 := hid hB0
  rw [← hB0, ← hB1, ← hB2]
  have hlt : w.heap.size ≤ B2 := by omega
  have hb0 : B0 < B1 := by omega
  have hb2 : B1 < B2 := by omega
  clear hB1 hB2 hB0
  by_cases hCE : CE = 0
  · have f0 : (CE != 0) = false := by simp [hCE]
    have x2 := M2.out hCE
    replace HTB := hid (HTB.out hCE)
    replace HOR := hid (HOR.out hCE)
    replace HRI := hid (HRI.out hCE)
    replace HRO := hid (HRO.out hCE)
    have X2 := hid x2
    clear M1 M2 x2
    subst hCE
    go_upto_region 4 with (first | (go_at_call 19; refine HCK.out.mono ?_; rintro e w2 ⟨rfl, hb2'⟩; have p1 := HC1.out w2 hb2'; have p3 := HC3.out w2 hb2'; have p3a := fun X => HC3.out (w2.alloc X) (hb2'.alloc hb2'.size X); have HB2 := hid hb2'; clear hb2' HCK c0 c1 c3 c4 z4))
    have hZ2 := HB2.out.size
    have htb : w2.heap[B1]? = some (.cells #[.slice A2 n c2] 27 (0, 0)) := (HB2.out.block _ hzz).trans HTB.out
    have HORD := hid (HOR.out w2 (HW.out _ HB2.out) B1 htb)
    clear htb HOR HTB p1 p3a
    have p3a := fun (X : Obj) => HC3.out _ (HB2.out.alloc hZ2 X)
    go_wp2_with (first | (go_at_call 79; refine HORD.out.mono ?_; rintro e w3 ⟨rfl, A3, c3, hl3, hz3, hn3, hc3, hb3⟩; have HB3 := hid (bnx4 HB2.out hb3); have HLC := hid hl3; have hl3b := fun (X : Obj) => cell_old (o := X) hl3; have HZ3 := hid hz3; have HN3 := hid hn3; have HC33 := hid hc3; have p3b := fun (X : Obj) => HC3.out _ (HB3.out.alloc HB3.out.size X); clear hl3 hz3 hn3 hc3 hb3 p3 p3a) | (go_at_call 71; refine (HRI.out _ (HW.out _ (HB3.out.alloc HB3.out.size _))).mono ?_; rintro e w4 ⟨v4, rfl, ho4, hb4⟩; obtain ⟨A4, c4, rfl⟩ := own_slice ho4; have HO4 := hid ho4; have HX4 := hid hb4; clear ho4 hb4 p3b))
    obtain ⟨B, hB⟩ : ∃ B, B = w3.heap.size := ⟨_, rfl⟩
    obtain ⟨Cb, hCb⟩ : ∃ Cb, Cb = w2.heap.size := ⟨_, rfl⟩
    have hOS := (OutT.start hB).below HX4.out
    obtain ⟨LV, hLV⟩ : ∃ LV, LV = lvN l := ⟨_, rfl⟩
    obtain ⟨RS, hRS⟩ : ∃ RS, RS = ringsOf l := ⟨_, rfl⟩
    obtain ⟨nL, hnL⟩ : ∃ nL, nL = LV.length := ⟨_, rfl⟩
    obtain ⟨m, hm⟩ : ∃ m, m = RS.length := ⟨_, rfl⟩
    have hsp : spans l = RS.map spOf := by rw [hRS]; rfl
    have hspl : (spans l).length = m := by rw [hsp, List.length_map, hm]
    have HFL : Hid (L = (fpL LV RS).1 ++ LV.drop (fpL LV RS).2) := by rw [X2.out, hLV, hRS]; exact hid rfl
    have hFO : FO B w3 [] (.slice none 0 0) A4 c4 m (RS.map spOf) w4 := ⟨hOS, by have := own_base HO4.out (show B + 1 ≤ _ by rw [hB]; simp); rw [hsp, List.length_map, ← hm] at this; exact this⟩
    rw [← hLV] at HLC HN3 HC33 HRO hlv
    rw [← hRS] at HRO hrl
    rw [← hnL] at HLC HC33 hlv
    rw [← hm] at hrl
    rw [← hCb] at HLC HZ3
    rw [hspl]
    rw [← hB, ← hCb]
    have hget := fun k (hk : k ≤ RS.length) => RngOk.get (LV := LV) (st := ([], 0)) HRO.out (Nat.le_refl _) k hk
    have HGT := hid hget; have HFO := hid hFO; have HBb := hid hB; have HNL := hid hnL; have HMM := hid hm
    have hBB : w3.heap.size ≤ B := by omega
    clear X2 HRO HO4 hOS hLV hRS hnL hm hsp hspl hFO hget HX4 hB hCb HORD HRI
    have HLV := hid fun (W : World) (h : Below B w3 W) => (show W.cell? ⟨Cb, 0, none⟩ = some (.slice A3 nL c3) ∧ Nds W B A3 LV from ⟨(h.cell (p := ⟨Cb, 0, none⟩) (by have := HZ3.out; have := HBb.out; show Cb < B; omega)).trans HLC.out, by have := HN3.out; rw [← HBb.out] at this; exact this.below h⟩)
    go_loopw [9, 28] (fun av kv wr => ∃ (k a : Nat) (v : Value), k ≤ m ∧ kv = .int .i64 k ∧ av = .int .i64 a ∧ Hid (a = (fpL LV (RS.take k)).2) ∧ Hid (FO B w3 (fpL LV (RS.take k)).1 v A4 c4 m (RS.map spOf) wr)) (fun _ kv _ => m - (intOf kv).toNat)
    case atStart => exact ⟨0, 0, _, by omega, rfl, rfl, hid rfl, HFO⟩
    case round =>
      obtain ⟨k, a, v, hk, rfl, rfl, ha, hO⟩ := hrel
      have hbB : Below B w3 wr := hO.out.out.bel
      have hbw : Below w1.heap.size w1 wr := HB3.out.trans (hbB.mono (by have := HB3.out.size; have := HBb.out; omega))
      have hgt := HGT.out k (by rw [← HMM.out]; exact hk)
      have e0 : (RS.take k).foldl (fpF LV) ([], 0) = fpL LV (RS.take k) := rfl
      rw [e0, ← ha.out, ← HNL.out] at hgt
      have hgl1 := hgt.2.1
      simp only [List.length_nil, Nat.zero_add, Nat.sub_zero] at hgl1
      have haL := hgt.1
      obtain ⟨lc1, ln1⟩ := HLV.out wr hbB
      by_cases hkm : k < m
      · have hkr : k < RS.length := by rw [← HMM.out]; exact hkm
        have hfm := hgt.2.2.2 hkr
        have hsn : fpL LV (RS.take (k + 1)) = fpF LV (fpL LV (RS.take k)) RS[k] := by
          rw [List.take_add_one, List.getElem?_eq_getElem hkr, Option.toList_some, fpL_app]
        have hpr : Prs wr wr.heap.size A4 (RS.map spOf) := by unfold Prs; rw [List.length_map, ← HMM.out]; exact Reads.of_own hO.out.sp
        obtain ⟨b5, o5, rfl, _, hc5⟩ := hpr.at (by rw [List.length_map]; omega)
        have hx := hc5 k (by rw [List.length_map]; exact hkr)
        rw [List.getElem_map] at hx
        generalize RS[k] = r at hx hfm hsn
        obtain ⟨ri, f, t⟩ := r
        have d1 := hx.p1; have d2 := hx.p2
        simp only [spOf] at d1 d2
        simp only [] at hfm
        obtain ⟨f1, f2, f3⟩ := hfm
        have e2 : (fpL LV (RS.take (k + 1))).2 = t := by rw [hsn]; rfl
        have e1 : (fpL LV (RS.take (k + 1))).1 = (fpL LV (RS.take k)).1 ++ (LV.take f).drop a ++ ringOut ((LV.take t).drop f) := by rw [hsn, ha.out]; rfl
        obtain ⟨L0, hL0⟩ : ∃ L0, L0 = (fpL LV (RS.take k)).1 := ⟨_, rfl⟩
        rw [← hL0] at e1 hO hgl1
        obtain ⟨T1, hT1⟩ : ∃ T1, T1 = (LV.take f).drop a := ⟨_, rfl⟩
        obtain ⟨RG, hRG⟩ : ∃ RG, RG = (LV.take t).drop f := ⟨_, rfl⟩
        have hT1l : T1.length = f - a := by rw [hT1]; have := HNL.out; simp; omega
        have hRGl : RG.length = t - f := by rw [hRG]; have := HNL.out; simp; omega
        have hseg1 := fun (W : World) (h : Below B w3 W) => (HLV.out W h).2.seg (a := a) (f := f) (c := c3) (by rw [← HNL.out]; omega) (by rw [← HNL.out]; exact HC33.out)
        have hseg2 := fun (W : World) (h : Below B w3 W) => (HLV.out W h).2.seg (a := f) (f := t) (c := c3) (by rw [← HNL.out]; omega) (by rw [← HNL.out]; exact HC33.out)
        rw [← hT1] at e1
        rw [← hRG] at e1
        simp only [← hT1] at hseg1
        simp only [← hRG] at hseg2
        have HE1 := hid e1; have HE2 := hid e2; have HS1 := hid hseg1; have HS2 := hid hseg2; have HT1 := hid hT1l; have HRG := hid hRGl
        have HO := hid hO.out; have HBW := hid hbw; have HBB' := hid hbB
        obtain ⟨n0, hn0⟩ : ∃ n0, n0 = L0.length := ⟨_, rfl⟩
        have hOo := hO.out.out.own
        rw [← hn0] at hOo hgl1
        obtain ⟨A5, c5, rfl⟩ := own_slice hOo
        have hoc := hO.out.out.cell
        have pm0 := hoc.1; have zm0 := hoc.2.1; have hBw := hoc.2.2
        have g0 : (k : Int) < (m : Int) := by omega
        have hc3n : nL ≤ c3 := HC33.out
        have hnn0 : n0 ≤ 2000000 := by omega
        have hfc : f ≤ c3 := by omega
        have htc : t ≤ c3 := by omega
        have HN0 := hid hn0; have HOo := hid hOo
        have lca := fun (X : Obj) => cell_old (o := X) lc1
        have HXA := hid fun (X : Obj) => heap_nw (w := wr) (o := X) rfl
        clear hgt hsn hpr hc5 hx e1 e2 hL0 hT1 hRG hT1l hRGl hseg1 hseg2 hO hbw hbB hoc hOo ha ln1 e0 hkr hn0
        go_upto_region 11 with (fail)
        go_cut [8] (fun s8 wx => s8 = .pointer (some ⟨B, 0, none⟩) ∧ (∃ v, Hid (FO B w3 (L0 ++ T1) v (some ⟨b5, o5, none⟩) c4 m (RS.map spOf) wx)) ∧ Hid (wx.heap[wr.heap.size]? = some (.cells #[.int .i64 f, .int .i64 t] 95 (0, 0))))
        case first =>
          have hX : ∀ A : Option Addr, (if c3 = a then A3 else Option.map (fun x => x.add (a * 8)) A3) = A → (if c3 = a then A3 else Option.map (fun x => x.add (a * 8)) A3) = A := fun _ h => h
          generalize hX1 : (if c3 = a then A3 else Option.map (fun x => x.add (a * 8)) A3) = X1 at HS1
          have HRD := hid fun (X : Obj) => (show Reads (wr.alloc X).drew B 8 X1 (f - a) (flatN T1) from by have := HS1.out _ (HBB'.out.alloc (by omega) X).drew; unfold Nds at this; rw [HT1.out] at this; exact this)
          have HOW := hid fun (X : Obj) => own_keep HOo.out ((Below.refl wr.heap.size wr).alloc (Nat.le_refl _) X).drew
          have HBX := hid fun (X : Obj) => ((Below.refl wr.heap.size wr).alloc (Nat.le_refl _) X).drew
          have HZB := hid (show B + 1 ≤ wr.heap.size from hBw)
          have HNX := hid fun (X : Obj) (v4 : Value) (w4 : World) (ho4 : w4.ownsRow (B + 1) 78 8 v4 (n0 + (f - a)) (flatN L0 ++ flatN T1)) (hg4 : (wr.alloc X).drew.grownBy w4 (Value.slice A5 n0 c5).ownBlock) => FO.step HO.out (HBX.out X) HN0.out HT1.out.symm ho4 hg4
          have HNK := hid fun (cs : Array Value) (v4 : Value) (w4 : World) (hg4 : (wr.alloc (.cells cs 95)).drew.grownBy w4 (Value.slice A5 n0 c5).ownBlock) => FO.keep (v4 := v4) (HO.out.below (HBX.out (.cells cs 95))) (Below.refl _ _) hg4 (heap_nw (w := wr) (o := .cells cs 95) rfl) (by omega) (by decide)
          clear HS1 HS2 hX
          go_region_law (first
            | (refine step_rdS rfl (.tmp 33) (.tmp 38) Try.underlying25 Try.infoNode rfl (by decide) (by decide) rfl (B + 1) _ n0 (flatN L0) rfl (HOW.out _) X1 (f - a) (c3 - a) B (flatN T1) (by simp [Act.eval, Act.put, hX1]) (HRD.out _) (fun u hu => flatN_one hu) (by omega) (by have := HZB.out; simp; omega) ?_; intro v8 w8 ho8 hg8; obtain ⟨p9, z9, ho9⟩ := HNX.out _ v8 w8 ho8 hg8; have hk9 := HNK.out _ v8 w8 hg8; obtain ⟨A8, c8, rfl⟩ := own_slice ho8; have HO9 := hid ho9; have HK9 := hid hk9; clear ho8 hg8 ho9 hk9))
          all_goals
            go_wp2_with fail
            go_meet
            exact ⟨rfl, ⟨_, HO9⟩, HK9⟩
        obtain ⟨rfl, ⟨v5, hO5⟩, hSB⟩ := hcut
        obtain ⟨wm, rfl⟩ : ∃ W, W = wc := ⟨_, rfl⟩
        have hbm : Below B w3 wm := hO5.out.out.bel
        have lc2 := (HLV.out wm hbm).1
        have sb1 := (cell_two hSB.out).1; have sb2 := (cell_two hSB.out).2.1
        obtain ⟨q, hq⟩ : ∃ q, q = t - f := ⟨_, rfl⟩
        have hq' : t - f = q := hq.symm
        have hqn : q ≤ 1000000 := by omega
        have hRq : RG.length = q := HRG.out.trans hq'
        generalize hX2 : (if c3 = f then A3 else Option.map (fun x => x.add (f * 8)) A3) = X2 at HS2
        have HCL := hid (by have := cloneN_any RG X2 (c3 - f) (by omega) wm B (by have := hO5.out.out.cell.2.2; omega) (HS2.out wm hbm); rw [hRq] at this; exact this : Calls Try.prog 78 #[.slice X2 q (c3 - f)] wm fun e w' => ∃ v, e = .returned v ∧ w'.ownsRow wm.heap.size 78 8 v q (flatN RG) ∧ Below wm.heap.size wm w')
        have hBm := hO5.out.out.cell.2.2
        have HO5 := hid hO5.out; have HSB := hid hSB.out; have HRQ := hid hRq; have HBM := hid hbm; have HQ := hid hq'
        clear hO5 hSB hbm hRq hq HS1 HS2 lc1 lca HXA pm0 zm0 d1 d2 HO HOo hfc
        have hfc : f ≤ c3 := by omega
        go_upto_if 50 with (first | (go_at_call 78; refine HCL.out.mono ?_; rintro e w6 ⟨v6, rfl, ho6, hb6⟩; obtain ⟨A6, c6, rfl⟩ := own_slice ho6; have HR6 := hid ho6; have HX6 := hid hb6; clear ho6 hb6))
        have HO6 := hid (HO5.out.below HX6.out)
        have HSB6 := hid ((HX6.out.block _ (lt_of_block HSB.out)).trans HSB.out)
        have hz6 := HX6.out.size
        clear lc2 sb1 sb2
        go_cut [12] (fun s12 wx => s12 = .slice A6 q c6 ∧ (∃ (v : Value) (PRE RG' : List Nd), Hid (PRE ++ RG' = ringOut RG) ∧ Hid (RG'.length = q) ∧ Hid (PRE.length ≤ 1) ∧ Hid (FO B w3 (L0 ++ T1 ++ PRE) v (some ⟨b5, o5, none⟩) c4 m (RS.map spOf) wx) ∧ Hid (wx.ownsRow wm.heap.size 78 8 (.slice A6 q c6) q (flatN RG')) ∧ Hid (wx.heap[wr.heap.size]? = some (.cells #[.int .i64 f, .int .i64 t] 95 (0, 0)))))
        case first =>
          by_cases hq6 : q ≤ 6
          · have e8 : decide ((q : Int) ≤ 6) = true := decide_eq_true (by omega)
            have e9 : (q : Int) ≤ 6 := by omega
            obtain ⟨n1, hn1⟩ : ∃ n1, n1 = (L0 ++ T1).length := ⟨_, rfl⟩
            have hn1b : n1 ≤ 4000000 := by rw [hn1, List.length_append, ← HN0.out, HT1.out]; omega
            have hOo := HO6.out.out.own
            rw [← hn1] at hOo
            obtain ⟨A7, c7, rfl⟩ := own_slice hOo
            have hoc := HO6.out.out.cell
            have pm0 := hoc.1
            have HOW := hid fun (X : Obj) => own_keep hOo ((Below.refl w6.heap.size w6).alloc (Nat.le_refl _) X)
            have HZB := hid (show B + 1 ≤ w6.heap.size from hoc.2.2)
            have HN1 := hid hn1
            have HNX := hid fun (X : Obj) (v4 : Value) (w4 : World) (ho4 : w4.ownsRow (B + 1) 78 8 v4 (n1 + 1) (flatN (L0 ++ T1) ++ ringN.cells)) (hg4 : (w6.alloc X).grownBy w4 (Value.slice A7 n1 c7).ownBlock) => FO.step (T := [ringN]) (k := 1) HO6.out ((Below.refl w6.heap.size w6).alloc (Nat.le_refl _) X) HN1.out rfl (by rw [flatN_sing]; exact ho4) hg4
            have hvz : ∀ g, (Value.slice A6 q c6).ownBlock = some g → wm.heap.size ≤ g ∧ g < w6.heap.size := fun g h => HR6.out.lt _ h
            have hov : ∀ g, (Value.slice A7 n1 c7).ownBlock = some g → g < wm.heap.size := fun g h => (HO5.out.out.own.lt _ h).2
            have HKR := hid fun (X : Obj) (v4 : Value) (w4 : World) (hg4 : (w6.alloc X).grownBy w4 (Value.slice A7 n1 c7).ownBlock) => (show (w4.setCell ⟨B, 0, none⟩ v4).ownsRow wm.heap.size 78 8 (.slice A6 q c6) q (flatN RG) from
              ownsRow_setCell_other ((own_keep HR6.out ((Below.refl w6.heap.size w6).alloc (Nat.le_refl _) X)).kept hg4 (by
                cases hh : (Value.slice A6 q c6).ownBlock with
                | none => exact .inl rfl
                | some g => exact .inr fun e => by have h1 := hvz g hh; have h2 := hov g e.symm; omega)) (a := ⟨B, 0, none⟩) (fun he => by have h1 := hvz _ he; have h2 := hBm; simp at h1; omega) v4)
            have HKS := hid fun (X : Obj) (v4 : Value) (w4 : World) (hg4 : (w6.alloc X).grownBy w4 (Value.slice A7 n1 c7).ownBlock) => FO.keep (v4 := v4) HO6.out ((Below.refl w6.heap.size w6).alloc (Nat.le_refl _) X) hg4 HSB6.out (by omega) (by decide)
            have HNF := hid fun (X : Obj) (v4 : Value) (hf4 : ∀ k, v4.ownBlock = some k → (Value.slice A7 n1 c7).ownBlock = some k ∨ (w6.alloc X).heap.size ≤ k) => (show ∀ g, (Value.slice A6 q c6).ownBlock = some g → v4.ownBlock ≠ some g from fun g h e => by
              have h1 := hvz g h
              rcases hf4 g e with h2 | h2
              · have h3 := hov g h2; omega
              · simp at h2; omega)
            clear hOo hoc hn1 hvz hov
            go_wp2_with (first | (at_builtin; refine app_elemF rfl (.tmp 52) (.tmp 54) Try.underlying25 Try.infoNode rfl (by decide) (by decide) rfl (B + 1) _ n1 (flatN (L0 ++ T1)) rfl (HOW.out _) ⟨w6.heap.size, 0, none⟩ [.int .i64 5, .int .i64 0, .int .i64 0, .int .i64 0, .bool false, .int .i64 0, .int .i64 0, .int .i64 0] rfl rfl (cell_news_at _ _ _ (by simp)) (fun u hu => flatN_one (l := [ringN]) (by rw [flatN_sing]; exact hu)) (by omega) (by have := HZB.out; simp; omega) ?_; intro v8 w8 ho8 hg8 hf8; obtain ⟨p9, z9, ho9⟩ := HNX.out _ v8 w8 ho8 hg8; have HR8 := hid (HKR.out _ v8 w8 hg8); have HS8 := hid (HKS.out _ v8 w8 hg8); have HF8 := hid (HNF.out _ v8 hf8); obtain ⟨A8, c8, rfl⟩ := own_slice ho8; have HO9 := hid ho9; clear ho8 hg8 ho9 hf8))
            clear p9 z9
            obtain ⟨wR, rfl⟩ : ∃ W, W = wr := ⟨_, rfl⟩
            go_loopw [59] (fun jv wx => ∃ j : Nat, j ≤ q ∧ jv = .int .i64 j ∧ Hid (FO B w3 (L0 ++ T1 ++ [ringN]) (.slice A8 (n1 + 1) c8) (some ⟨b5, o5, none⟩) c4 m (RS.map spOf) wx) ∧ Hid (wx.ownsRow wm.heap.size 78 8 (.slice A6 q c6) q (flatN (mixN (setD 1) RG j))) ∧ Hid (wx.heap[wR.heap.size]? = some (.cells #[.int .i64 f, .int .i64 t] 95 (0, 0)))) (fun jv _ => q - (intOf jv).toNat)
            case atStart => exact ⟨0, by omega, rfl, HO9, by rw [mixN_0]; exact HR8, HS8⟩
            case round =>
              obtain ⟨j, hj, rfl, hFj, hRj, hSj⟩ := hrel
              by_cases hjq : j < q
              · have hjl : j < RG.length := by rw [HRQ.out]; exact hjq
                obtain ⟨g, c9, hv9, hgb, hgl⟩ := own_some hRj.out (by omega)
                simp only [Value.slice.injEq, true_and] at hv9
                obtain ⟨rfl, rfl⟩ := hv9
                have hml := mixN_len (setD 1) RG j
                have hx0 := own_nd hRj.out (by rw [hml]; exact HRQ.out) (k := j) (by rw [hml]; exact hjl)
                rw [mixN_get hjl] at hx0
                have hx := hx0.depth
                clear hx0
                have hset := own_set (j := 1) (f := setD 1) (u := .int .i64 1) hRj.out (Below.refl _ _) hjl (by decide) (by rfl)
                have zz := hRj.out.frozenAt (j * 8 + 1)
                have hgB : B < g := by omega
                have hfs := FO.set (j := j * 8 + 1) (u := .int .i64 1) hFj.out hgB (HF8.out g rfl) (fun e => by
                  rcases own_ne hFj.out.sp hRj.out (by decide) with h | h
                  · rw [h] at e; cases e
                  · exact h (by rw [e]; rfl)) hBB
                have hkp : (World.setCell _ ⟨g, j * 8 + 1, none⟩ (.int .i64 1)).heap[wR.heap.size]? = some (.cells #[.int .i64 f, .int .i64 t] 95 (0, 0)) := (Below.heap_setCell _ _ _ _ (by simp; intro e; have h1 := hSj.out; rw [e] at h1; obtain ⟨cur, h4⟩ := own_type hRj.out (g := g) rfl; rw [h1] at h4; injection h4 with h4; injection h4 with _ h5 _; exact absurd h5 (by decide))).trans hSj.out
                have g3 : (j : Int) < (q : Int) := by omega
                have HF := hid hfs; have HR := hid hset; have HS := hid hkp
                clear hml hset hfs hkp hFj hRj hSj
                go_wp2_with fail
                go_roundw
                case rel => exact ⟨j + 1, by omega, by go_num, HF, HR, HS⟩
                case measure => simp [intOf]; omega
              · obtain rfl : q = j := by omega
                have g3 : decide (q < q) = false := by simp
                have hmx := mixN_all (setD 1) RG
                rw [HRQ.out] at hmx
                have hRq := hRj.out
                rw [hmx] at hRq
                have hro : [ringN] ++ RG.map (setD 1) = ringOut RG := by unfold ringOut; rw [HRQ.out, if_pos hq6]; rfl
                have HRR := hid hro; have HRL := hid (show (RG.map (setD 1)).length = q by rw [List.length_map, HRQ.out])
                have HRQ2 := hid hRq
                clear hmx hRq hro
                go_wp2_with fail
                go_meet
                exact ⟨rfl, _, [ringN], RG.map (setD 1), HRR, HRL, hid (by simp), hFj, HRQ2, hSj⟩
          · have e8 : decide ((q : Int) ≤ 6) = false := decide_eq_false (by omega)
            have hro : [] ++ RG = ringOut RG := by unfold ringOut; rw [HRQ.out, if_neg hq6]; rfl
            have HRR := hid hro
            clear hro
            go_wp2_with fail
            go_meet
            exact ⟨rfl, _, [], RG, HRR, HRQ, hid (by simp), by rw [List.append_nil]; exact HO6, HR6, HSB6⟩
        obtain ⟨rfl, v7, PRE, RG', hPR, hRl, hPl, hO7, hR7, hSB7⟩ := hcut
        obtain ⟨wn, rfl⟩ : ∃ W, W = wc := ⟨_, rfl⟩
        obtain ⟨n7, hn7⟩ : ∃ n7, n7 = (L0 ++ T1 ++ PRE).length := ⟨_, rfl⟩
        have hn7b : n7 ≤ 4000000 := by rw [hn7, List.length_append, List.length_append, ← HN0.out, HT1.out]; have := hPl.out; omega
        have hOo := hO7.out.out.own
        rw [← hn7] at hOo
        obtain ⟨A7, c7, rfl⟩ := own_slice hOo
        have hoc := hO7.out.out.cell
        have x0 := hoc.1; have x1 := hoc.2.1; have x2 := hoc.2.2
        have sb1 := (cell_two hSB7.out).1; have sb2 := (cell_two hSB7.out).2.1
        have HOo := hid hOo; have HN7 := hid hn7
        have HRR := hid (Reads.of_own hR7.out)
        have HNX := hid fun (v4 : Value) (w4 : World) (ho4 : w4.ownsRow (B + 1) 78 8 v4 (n7 + q) (flatN (L0 ++ T1 ++ PRE) ++ flatN RG')) (hg4 : wn.grownBy w4 (Value.slice A7 n7 c7).ownBlock) => FO.step hO7.out (Below.refl _ _) HN7.out hRl.out.symm ho4 hg4
        have HNK := hid fun (v4 : Value) (w4 : World) (hg4 : wn.grownBy w4 (Value.slice A7 n7 c7).ownBlock) => (show w4.heap[wr.heap.size]? = some (.cells #[.int .i64 f, .int .i64 t] 95 (0, 0)) from by
          refine (hg4.block _ (lt_of_block hSB7.out) fun e => ?_).trans hSB7.out
          obtain ⟨cur, h4⟩ := own_type HOo.out e.symm
          rw [hSB7.out] at h4
          injection h4 with h4
          injection h4 with _ h5 _
          exact absurd h5 (by decide))
        have HEE := hid (show (fpL LV (RS.take (k + 1))).1 = (L0 ++ T1 ++ PRE) ++ RG' from by rw [HE1.out, List.append_assoc (L0 ++ T1) PRE RG', hPR.out])
        clear hoc hOo hn7 hO7 hR7 hSB7 hPR hRl hPl
        go_wp2_with (first | (at_builtin; refine app_rdS rfl (.tmp 68) (.tmp 69) Try.underlying25 Try.infoNode rfl (by decide) (by decide) rfl (B + 1) _ n7 (flatN (L0 ++ T1 ++ PRE)) rfl HOo.out A6 q c6 wn.heap.size (flatN RG') rfl HRR.out (fun u hu => flatN_one hu) (by omega) x2 ?_; intro v8 w8 ho8 hg8; obtain ⟨p9, z9, ho9⟩ := HNX.out v8 w8 ho8 hg8; have hk9 := cell_two (HNK.out v8 w8 hg8); have y1 := hk9.1; have y2 := hk9.2.1; obtain ⟨A8, c8, rfl⟩ := own_slice ho8; have HO9 := hid ho9; clear ho8 hg8 ho9 hk9))
        go_roundw
        case rel => exact ⟨k + 1, t, _, by omega, by go_num, rfl, hid HE2.out.symm, by rw [HEE.out]; exact HO9⟩
        case measure => simp [intOf]; omega
      · obtain rfl : m = k := by omega
        have hRR : RS.take m = RS := by rw [HMM.out, List.take_length]
        rw [hRR] at hO ha hgl1
        have hOb := hO.out
        obtain ⟨L0, hL0⟩ : ∃ L0, L0 = (fpL LV RS).1 := ⟨_, rfl⟩
        have hLL : L = L0 ++ LV.drop a := by rw [HFL.out, hL0, ha.out]
        rw [← hL0] at hOb hgl1
        obtain ⟨n0, hn0⟩ : ∃ n0, n0 = L0.length := ⟨_, rfl⟩
        have hOo := hOb.out.own
        rw [← hn0] at hOo hgl1
        obtain ⟨A5, c5, rfl⟩ := own_slice hOo
        have hoc := hOb.out.cell
        have pm0 := hoc.1; have zm0 := hoc.2.1; have hBw := hoc.2.2
        have hseg := fun (W : World) (h : Below B w3 W) => (HLV.out W h).2.seg (a := a) (f := nL) (c := c3) (by rw [← HNL.out]; exact Nat.le_refl _) (by rw [← HNL.out]; exact HC33.out)
        have htk : LV.take nL = LV := by rw [HNL.out, List.take_length]
        simp only [htk] at hseg
        generalize hX1 : (if c3 = a then A3 else Option.map (fun x => x.add (a * 8)) A3) = X1 at hseg
        have hdl : (LV.drop a).length = nL - a := by rw [List.length_drop, ← HNL.out]
        have HRD := hid (show Reads wr.drew B 8 X1 (nL - a) (flatN (LV.drop a)) from by have := hseg _ hbB.drew; unfold Nds at this; rw [hdl] at this; exact this)
        have HOW := hid (own_keep hOo (Below.refl wr.heap.size wr).drew)
        have HN0 := hid hn0
        have HNX := hid fun (v4 : Value) (w4 : World) (ho4 : w4.ownsRow (B + 1) 78 8 v4 (n0 + (nL - a)) (flatN L0 ++ flatN (LV.drop a))) (hg4 : wr.drew.grownBy w4 (Value.slice A5 n0 c5).ownBlock) => FO.step hOb (Below.refl wr.heap.size wr).drew HN0.out hdl.symm ho4 hg4
        have HLL := hid hLL; have HDL := hid hdl
        have g0 : decide (m < m) = false := by simp
        have hc3n : nL ≤ c3 := HC33.out
        have hnn0 : n0 ≤ 2000000 := by omega
        have HZB := hid (show B + 1 ≤ wr.heap.size from hBw)
        clear hRR hO hOb hLL hoc hOo hseg htk hdl hL0 ha ln1 hgt hn0 e0
        go_upto_region 23 with (fail)
        go_cut [8] (fun s8 wx => s8 = .pointer (some ⟨B, 0, none⟩) ∧ (∃ v, Hid (FO B w3 (L0 ++ LV.drop a) v A4 c4 m (RS.map spOf) wx)))
        case first =>
          go_region_law (first
            | (refine step_rdS rfl (.tmp 76) (.tmp 79) Try.underlying25 Try.infoNode rfl (by decide) (by decide) rfl (B + 1) _ n0 (flatN L0) rfl HOW.out X1 (nL - a) (c3 - a) B (flatN (LV.drop a)) (by simp [Act.eval, Act.put, hX1]) HRD.out (fun u hu => flatN_one hu) (by omega) HZB.out ?_; intro v8 w8 ho8 hg8; obtain ⟨p9, z9, ho9⟩ := HNX.out v8 w8 ho8 hg8; obtain ⟨A8, c8, rfl⟩ := own_slice ho8; have HO9 := hid ho9; clear ho8 hg8 ho9))
          all_goals
            go_wp2_with fail
            go_meet
            exact ⟨rfl, _, HO9⟩
        obtain ⟨rfl, v9, hO9⟩ := hcut
        obtain ⟨wn, rfl⟩ : ∃ W, W = wc := ⟨_, rfl⟩
        have hbn := HB3.out.trans (hO9.out.out.bel.mono (by have := HB3.out.size; have := HBb.out; omega))
        have p4 := HC4.out wn hbn; have z4 := HZ4.out wn hbn
        obtain ⟨K, hK⟩ : ∃ K, K = (L0 ++ LV.drop a).length := ⟨_, rfl⟩
        have hOo := hO9.out.out.own
        rw [← hK] at hOo
        obtain ⟨A9, c9, rfl⟩ := own_slice hOo
        have x0 := hO9.out.out.cell.1
        have HOo := hid hOo; have HBN := hid hbn; have HKK := hid hK
        have hBlt : w.heap.size ≤ B + 1 := by have := (HW.out _ HB3.out).size; have := HBb.out; omega
        have hB2 : B2 < B := by have := HB3.out.size; have := HBb.out; omega
        have HLT := hid hBlt; have HB2' := hid hB2
        clear hO9 hOo hbn hK pm0 zm0 hBlt hB2
        go_wp2_with fail
        have hq := World.cell?_setCell_same _ _ (.slice A9 K c9) p4
        have h9 := HOo.out
        have hne : (Value.slice A9 K c9).ownBlock ≠ some B2 := fun he => by have := (h9.lt _ he).1; have := HB2'.out; omega
        have h10 := own_base (ownsRow_setCell_other h9 (a := (⟨B2, 0, none⟩ : Addr)) hne (.slice A9 K c9)) HLT.out
        exact bodyPost_ret (v := .tuple #[.agg #[.slice A9 K c9], .int .i64 0]) (by simp [results, Try.results52, go_sem, hq]) rfl ⟨.slice A9 K c9, rfl, by rw [HLL.out, ← HKK.out]; exact h10, (HW.out _ HBN.out).setCell hlt _⟩
  · have f0 : (CE != 0) = true := by simp [hCE]
    have x2 := M1.out hCE
    have X2 := hid x2
    clear x2
    clear M1 M2 hCE
    go_wp2_with (first | (go_at_call 19; refine HCK.out.mono ?_; rintro e w2 ⟨rfl, hb2'⟩; have p4 := HC4.out w2 hb2'; have q4 := HZ4.out w2 hb2'; have HB2 := hid hb2'; clear hb2' HCK c0 c1 c3 c4 z4))
    have hq := World.cell?_setCell_same _ _ (.slice none 0 0) p4
    exact bodyPost_ret (v := .tuple #[.agg #[.slice none 0 0], .int .i64 CE]) (by simp [results, Try.results52, go_sem, hq]) rfl ⟨.slice none 0 0, rfl, by rw [X2.out]; exact World.ownsRow_nil _ _ _ _, (HW.out _ HB2.out).setCell hlt _⟩
end Go.Proofs.Ytddbnggficlcfaa

/- ostraconref02.Flat. -/
namespace Go.Proofs.Ytddbnggficlcfaa
open Go.RowKit Go.Shelf
theorem leaves_len2 (l : List Nd) : (leaves l).length ≤ l.length := lvs_all _
theorem dn_le' {l : List Nd} {j : Nat} : (dn l l.length (kidsOf l (-1)) j).length ≤ (leaves l).length := by
  rw [leaves_dn, ← dn_take (l := l) (f := l.length) (ks := kidsOf l (-1)) (j := j), List.length_take]
  omega
theorem lvs_mem2 {l : List Nd} (f : Nat) (node : Int) (h1 : -1 ≤ node) (h2 : node < l.length) : ∀ x ∈ lvs l f node, x < l.length := lvs_mem f node h1 h2
theorem fltG_len (l : List Nd) (g : Nat) : (fltG l g).length ≤ (lvs l l.length (g : Int)).length + 1 := by
  unfold fltG
  split
  · rw [List.length_cons, List.length_map]; exact Nat.le_refl _
  · rw [List.length_map]; omega
theorem fltK_len (l : List Nd) : ∀ j, (fltK l j).length ≤ (dn l l.length (kidsOf l (-1)) j).length + j
  | 0 => by simp [fltK, dn]
  | j + 1 => by
    have ih := fltK_len l j
    by_cases h : j < (kidsOf l (-1)).length
    · have := fltG_len l (kidsOf l (-1))[j]
      rw [fltK_s h, dn_s h, List.length_append, List.length_append]
      omega
    · have e1 : fltK l (j + 1) = fltK l j := by unfold fltK; rw [List.take_of_length_le (by omega), List.take_of_length_le (by omega)]
      have e2 : dn l l.length (kidsOf l (-1)) (j + 1) = dn l l.length (kidsOf l (-1)) j := by unfold dn; rw [List.take_of_length_le (by omega), List.take_of_length_le (by omega)]
      rw [e1, e2]
      omega
theorem lvs_le {l : List Nd} (x : Nat) : True := trivial
/-- The state of the document's loop: what was put out, and the numbers of a row. -/
structure FK (B : Nat) (w : World) (L : List Nd) (v : Value) (A4 : Option Addr) (c4 m : Nat) (ks : List Nat) (W : World) : Prop where
  out : OutT B w L v W
  sp : W.ownsRow (B + 1) 3 1 (.slice A4 m c4) m (ints (nz ks))
theorem FK.below {B : Nat} {w W W' : World} {L : List Nd} {v : Value} {A4 : Option Addr} {c4 m : Nat} {ks : List Nat} (h : FK B w L v A4 c4 m ks W) (hb : Below W.heap.size W W') : FK B w L v A4 c4 m ks W' := ⟨h.out.below hb, own_keep h.sp hb⟩
theorem FK.step {B n k : Nat} {w W W3 w4 : World} {L T : List Nd} {v v4 : Value} {A4 : Option Addr} {c4 m : Nat} {ks : List Nat} (h : FK B w L v A4 c4 m ks W) (hb : Below W.heap.size W W3) (hn : n = L.length) (hm : k = T.length) (ho : w4.ownsRow (B + 1) 78 8 v4 (n + k) (flatN L ++ flatN T)) (hg : W3.grownBy w4 v.ownBlock) :
    w4.cell? ⟨B, 0, none⟩ = some v ∧ w4.frozen? ⟨B, 0, none⟩ = false ∧ FK B w (L ++ T) v4 A4 c4 m ks (w4.setCell ⟨B, 0, none⟩ v4) := by
  subst hn hm
  have h3 := h.out.below hb
  have hne : v.ownBlock ≠ some B := fun e => by have := (h3.own.lt _ e).1; omega
  have hk : w4.heap[B]? = some (.cells #[v] 27 (0, 0)) := (hg.block B (lt_of_block h3.o_) (fun e => hne e.symm)).trans h3.o_
  have hs := (own_keep h.sp hb).kept hg (own_ne (own_keep h.sp hb) h3.own (by decide))
  refine ⟨cell_of_one hk, free_of_one hk, ⟨one_setCell hk, ?_, (below_app h3.bel h3.own hg (by omega) (by have := lt_of_block h3.o_; omega)).setCell (by simp) _⟩, ownsRow_setCell_other hs (a := ⟨B, 0, none⟩) (fun he => by have := (hs.lt _ he).1; simp at this <;> omega) _⟩
  rw [List.length_append, flatN_app]
  exact ownsRow_setCell_other ho (a := ⟨B, 0, none⟩) (fun he => by have := (ho.lt _ he).1; simp at this <;> omega) _
/-- Another row of numbers stays, too. -/
theorem FK.other {B base e' n : Nat} {w W W3 w4 : World} {L : List Nd} {v v4 : Value} {A4 : Option Addr} {c4 m : Nat} {ks : List Nat} {u : Value} {xs : List Value} (h : FK B w L v A4 c4 m ks W) (hb : Below W.heap.size W W3) (hg : W3.grownBy w4 v.ownBlock) (hu : W.ownsRow base 3 e' u n xs) (hB : B < base) : (w4.setCell ⟨B, 0, none⟩ v4).ownsRow base 3 e' u n xs := by
  have hs := (own_keep hu hb).kept hg (own_ne (own_keep hu hb) (h.out.below hb).own (by decide))
  exact ownsRow_setCell_other hs (a := ⟨B, 0, none⟩) (fun he => by have := (hs.lt _ he).1; simp at this; omega) _
set_option maxRecDepth 100000 in
set_option maxHeartbeats 8000000 in
theorem refFlat_any (P : Int) (ss : List Sg) (l : List Nd) (hN : ss.length ≤ 1000000) (hv : ∀ s ∈ ss, s.vals.length ≤ 1000000) (hn : l.length ≤ 1000000) (A A2 : Option Addr) (c c2 : Nat) (w : World) (rs : Sgs w w.heap.size A ss) (rn : Nds w w.heap.size A2 l) :
    Calls Try.prog 53 #[.agg #[.int .i64 P, .slice A ss.length c], .agg #[.slice A2 l.length c2]] w (TxtPost (chkE P ss l) (flaL P ss l) w) := by
  obtain ⟨w1, hw1⟩ : ∃ w1, w1 = ((w.alloc (.cells #[.int .i64 P, .slice A ss.length c] 24)).alloc (.cells #[.slice A2 l.length c2] 27)).alloc (.cells #[.slice none 0 0] 27) := ⟨_, rfl⟩
  have hb1 : Below w.heap.size w w1 := by rw [hw1]; exact (((Below.refl _ _).alloc (Nat.le_refl _) _).alloc (by simp) _).alloc (by simp; omega) _
  have hz1 : w1.heap.size = w.heap.size + 3 := by rw [hw1]; simp
  have c0 : w1.cell? ⟨w.heap.size, 0, none⟩ = some (.int .i64 P) := by rw [hw1]; exact cell_old (cell_old (cell_here rfl rfl))
  have c1 : w1.cell? ⟨w.heap.size, 1, none⟩ = some (.slice A ss.length c) := by rw [hw1]; exact cell_old (cell_old (cell_here rfl rfl))
  have c3 : w1.cell? ⟨w.heap.size + 1, 0, none⟩ = some (.slice A2 l.length c2) := by rw [hw1]; exact cell_old (cell_here (by simp) rfl)
  have c4 : w1.cell? ⟨w.heap.size + 2, 0, none⟩ = some (.slice none 0 0) := by rw [hw1]; exact cell_here (by simp) rfl
  have z4 : w1.frozen? ⟨w.heap.size + 2, 0, none⟩ = false := by rw [hw1]; exact free_here (by simp)
  have HCK := hid (refCheck_any P ss l hN hv hn A A2 c c2 w1 ((rs.below hb1).more (by omega)) ((rn.below hb1).more (by omega)))
  have HKI := hid fun (h : chkE P ss l = 0) (W : World) (hb : Below w.heap.size w W) => (by
    have := refKids_any l (-1) (by omega) (by omega) (good_of (chkE_zero h).2.2.1).deps hn A2 c2 W ((rn.below hb).more hb.size)
    rw [rkids_eq (good_of (chkE_zero h).2.2.1).wf (by omega) (by omega)] at this
    exact this)
  have HLV := hid fun (h : chkE P ss l = 0) (x : Nat) (hx : x < l.length) (W : World) (hb : Below w.heap.size w W) => refLeaves_any l (good_of (chkE_zero h).2.2.1).wf (good_of (chkE_zero h).2.2.1).deps hn (good_hon h) A2 c2 l.length (x : Int) W (by omega) (by omega) (by omega) ((rn.below hb).more hb.size)
  have HFE := hid fun (h : chkE P ss l = 0) => fltL_eq (good_of (chkE_zero h).2.2.1).wf (good_of (chkE_zero h).2.2.1).deps (fun i hi => ((chkE_zero h).2.2.2 i hi).2.1)
  have hkl := kidsOf_len (l := l) (node := -1) (by omega)
  have hfl := fltK_len l
  have hdl := fun j => Nat.le_trans (dn_le' (l := l) (j := j)) (leaves_len2 l)
  have hlm := fun (x : Nat) (hx : x < l.length) => lvs_mem2 (l := l) l.length (x : Int) (by omega) (by omega)
  have hlq := fun (x : Nat) (_ : x < l.length) => lvs_le (l := l) x
  have hkm := fun x (h : x ∈ kidsOf l (-1)) => (kidsOf_mem (l := l) (by omega) (by omega) h).2
  have m1 := flaL_bad (P := P) (ss := ss) (l := l); have m2 := flaL_ok (P := P) (ss := ss) (l := l)
  generalize flaL P ss l = L at m1 m2 ⊢
  generalize chkE P ss l = CE at HCK m1 m2 HKI HLV HFE
  have M1 := hid m1; have M2 := hid m2
  clear m1 m2
  obtain ⟨N, hNN⟩ : ∃ N, N = ss.length := ⟨_, rfl⟩
  rw [← hNN] at HCK c1 hw1 hN ⊢
  obtain ⟨n, hnn⟩ : ∃ n, n = l.length := ⟨_, rfl⟩
  rw [← hnn] at HCK c3 hw1 hn HKI HLV ⊢
  try rw [← hnn] at M2
  rw [← hnn] at hkl
  simp only [← hnn] at hdl hlm hlq
  have HW1 := hid hw1; have HB1 := hid hb1; have HR := hid rn; have HRS := hid rs; have HNN := hid hnn; have HNS := hid hNN
  have hzz : w.heap.size + 1 < w1.heap.size := by omega
  have hzy : w.heap.size + 2 < w1.heap.size := by omega
  have hzx : w.heap.size < w1.heap.size := by omega
  have HC1 := hid fun (wr : World) (h : Below w1.heap.size w1 wr) => (h.cell (p := ⟨w.heap.size, 1, none⟩) hzx).trans c1
  have HC3 := hid fun (wr : World) (h : Below w1.heap.size w1 wr) => (h.cell (p := ⟨w.heap.size + 1, 0, none⟩) hzz).trans c3
  have HC4 := hid fun (wr : World) (h : Below w1.heap.size w1 wr) => (h.cell (p := ⟨w.heap.size + 2, 0, none⟩) hzy).trans c4
  have HZ4 := hid fun (wr : World) (h : Below w1.heap.size w1 wr) => (h.frozen (p := ⟨w.heap.size + 2, 0, none⟩) hzy).trans z4
  have HW : Hid (∀ wr, Below w1.heap.size w1 wr → Below w.heap.size w wr) := fun wr h => hb1.trans (h.mono (by omega))
  clear hw1 hb1 hz1 rs rn hv hnn hNN
  go_enter Try.func53, Try.ntmps53
  go_upto_region 1 with (fail)
  simp only [Nat.add_assoc, Nat.reduceAdd]
  rw [← HW1.out]
  clear HW1
  obtain ⟨B0, hB0⟩ : ∃ B0, B0 = w.heap.size := ⟨_, rfl⟩
  obtain ⟨B1, hB1⟩ : ∃ B1, B1 = B0 + 1 := ⟨_, rfl⟩
  obtain ⟨B2, hB2⟩ : ∃ B2, B2 = B0 + 2 := ⟨_, rfl⟩
  rw [← hB0, ← hB1] at c3 HC3 hzz
  rw [← hB0, ← hB2] at c4 z4 HC4 HZ4 hzy
  rw [← hB0] at c0 c1 HC1 hzx
  have HB0 := hid hB0
  rw [← hB0, ← hB1, ← hB2]
  have hlt : w.heap.size ≤ B2 := by omega
  have hb0 : B0 < B1 := by omega
  have hb2 : B1 < B2 := by omega
  clear hB1 hB2 hB0
  by_cases hCE : CE = 0
  · have f0 : (CE != 0) = false := by simp [hCE]
    have x2 := M2.out hCE
    replace HKI := hid (HKI.out hCE)
    replace HLV := hid (HLV.out hCE)
    replace HFE := hid (HFE.out hCE)
    have X2 := hid x2
    clear M1 M2 x2
    subst hCE
    go_wp2_with (first | (go_at_call 20; refine HCK.out.mono ?_; rintro e w2 ⟨rfl, hb2'⟩; have p1 := HC1.out w2 hb2'; have p3 := HC3.out w2 hb2'; have p3a := fun X => HC3.out (w2.alloc X) (hb2'.alloc hb2'.size X); have HB2 := hid hb2'; clear hb2' HCK c0 c1 c3 c4 z4) | (go_at_call 67; refine (HKI.out _ (HW.out _ (HB2.out.alloc HB2.out.size _))).mono ?_; rintro e w4 ⟨v4, rfl, ho4, hb4⟩; obtain ⟨A4, c4, rfl⟩ := own_slice ho4; have HO4 := hid ho4; have HX4 := hid hb4; clear ho4 hb4))
    obtain ⟨B, hB⟩ : ∃ B, B = w2.heap.size := ⟨_, rfl⟩
    have hOS := (OutT.start hB).below HX4.out
    have hZ2 := HB2.out.size
    obtain ⟨ng, hng⟩ : ∃ ng, ng = (kidsOf l (-1)).length := ⟨_, rfl⟩
    have ho4 := own_base HO4.out (show B + 1 ≤ _ by rw [hB]; simp)
    rw [← hng] at ho4 hkl
    rw [← hng, ← hB]
    have hFA : FK B w2 [] (.slice none 0 0) A4 c4 ng (kidsOf l (-1)) w4 := ⟨hOS, ho4⟩
    rw [← hB] at hZ2
    have HFA := hid hFA; have HNG := hid hng; have HBb := hid hB; have HFL := hid hfl; have HDL := hid hdl; have HLM := hid hlm; have HLQ := hid hlq; have HKM := hid hkm
    have hBB : w2.heap.size ≤ B := by omega
    clear HKI HO4 HX4 hOS ho4 hng hB hFA hfl hdl hlm hlq hkm p1 p3 p3a
    go_loopw [9] (fun jv wr => ∃ (j : Nat) (v : Value), j ≤ ng ∧ jv = .int .i64 j ∧ Hid (FK B w2 (fltK l j) v A4 c4 ng (kidsOf l (-1)) wr)) (fun jv _ => ng - (intOf jv).toNat)
    case atStart => exact ⟨0, _, by omega, rfl, by rw [show fltK l 0 = [] from rfl]; exact HFA⟩
    case round =>
      obtain ⟨j, v, hj, rfl, hO⟩ := hrel
      have hbw : Below w1.heap.size w1 wr := HB2.out.trans (hO.out.out.bel.mono hZ2)
      by_cases hjn : j < ng
      · have hjl : j < (kidsOf l (-1)).length := by rw [← HNG.out]; exact hjn
        have hg := HKM.out _ (List.getElem_mem hjl)
        have hfs := fltK_s hjl
        obtain ⟨gk, c9, hv9, hgb, hgl⟩ := own_some hO.out.sp (by omega)
        simp only [Value.slice.injEq, true_and] at hv9
        obtain ⟨rfl, rfl⟩ := hv9
        have hcell := hO.out.sp.cellAt j (by omega)
        have e9 : (nz (kidsOf l (-1))).getD j 0 = ((kidsOf l (-1))[j] : Int) := by simp [nz, List.getD_eq_getElem?_getD, hjl]
        rw [ints_get (by rw [nz_len]; exact hjl), e9] at hcell
        have hds := congrArg List.length (dn_s (l := l) (f := l.length) hjl)
        have hdm := HDL.out (j + 1)
        rw [List.length_append] at hds
        generalize (kidsOf l (-1))[j] = x at hg hfs hcell hds
        have hfl := HFL.out j
        rw [← HNN.out] at hg
        have hdm0 := HDL.out j
        have hfg : fltG l x = (if kd l x = 5 ∧ (lvs l l.length (x : Int)).length ≤ 6 then ringN :: (lvs l l.length (x : Int)).map (ndD l 1) else (lvs l l.length (x : Int)).map (ndD l 0)) := rfl
        rw [← HNN.out] at hfg hds hfl
        have hlv := fun (W : World) (h : Below w1.heap.size w1 W) => HLV.out x hg W (HW.out _ h)
        have hem := HLM.out x hg
        obtain ⟨b, o, rfl, hbB, hc⟩ := HR.out.at (by rw [← HNN.out]; omega)
        have hkc := fun (W : World) (h : Below w1.heap.size w1 W) => ((HW.out _ h).cell (p := ⟨b, o + x * 8, none⟩) hbB).trans (hc x (by rw [← HNN.out]; exact hg)).kind
        rw [← kd_at] at hkc
        generalize lvs l n (x : Int) = E at hfg hds hlv hem
        obtain ⟨e, he⟩ : ∃ e, e = E.length := ⟨_, rfl⟩
        rw [← he] at hfg hds
        have hen : e ≤ n := by omega
        have hfl2 : (fltK l j).length + e ≤ 2000000 := by omega
        generalize kd l x = kx at hfg hkc
        obtain ⟨D0, hD0⟩ : ∃ D0, D0 = fltK l j := ⟨_, rfl⟩
        rw [← hD0] at hfs hfl2 hO
        obtain ⟨n0, hn0⟩ : ∃ n0, n0 = D0.length := ⟨_, rfl⟩
        rw [← hn0] at hfl2
        have HFS := hid hfs; have HFG := hid hfg; have HEM := hid hem; have HKC := hid hkc; have HLE := hid hlv; have HE := hid he; have HNX := hid hc; have HN0 := hid hn0
        have HO := hid hO.out; have HBW := hid hbw
        have q3 := HC3.out wr hbw
        have q3d := HC3.out wr.drew hbw.drew
        have hg2 : (x : Int) < (n : Int) := by omega
        have g0 : (j : Int) < (ng : Int) := by omega
        have hBw := hO.out.out.cell.2.2
        clear hfs hfg hem hkc hlv he hc hn0 hO hbw hds hdm hdm0 hfl hD0 e9 hjl
        go_upto_region 9 with (fail)
        go_cut [10] (fun s10 wx => ∃ (A7 : Option Addr) (c7 : Nat), s10 = .slice A7 e c7 ∧ Hid (Below wr.heap.size wr wx) ∧ Hid (wx.ownsRow wr.heap.size 3 1 (.slice A7 e c7) e (ints (nz E))))
        case first =>
          go_region_law (first
            | (go_simp; go_at_call 69; refine (HLE.out _ (by first | exact HBW.out.drew | exact HBW.out)).mono ?_; rintro e' w7 ⟨v7, rfl, ho7, hb7⟩; rw [← HE.out] at ho7; obtain ⟨A7, c7, rfl⟩ := own_slice ho7; have HB7 := hid (show Below wr.heap.size wr w7 from bnx (by first | exact (Below.refl _ _).drew | exact Below.refl _ _) hb7); have HO7 := hid ho7; clear ho7 hb7))
          all_goals
            go_wp2_with fail
            go_meet
            exact ⟨_, _, rfl, HB7, HO7⟩
        obtain ⟨A7, c7, rfl, hB7, hO7⟩ := hcut
        obtain ⟨wm, rfl⟩ : ∃ W, W = wc := ⟨_, rfl⟩
        have hbm := bnx4 HBW.out hB7.out
        have HOM := hid (HO.out.below hB7.out)
        have q4 := HC3.out wm hbm
        have hcm := (hB7.out.cell (p := ⟨gk, j, none⟩) hgl).trans hcell
        have hkm' := HKC.out wm hbm
        obtain ⟨xb, hxb⟩ : ∃ xb : Bool, (xb = true ↔ kx = 5 ∧ e ≤ 6) := by
          by_cases h : kx = 5 ∧ e ≤ 6
          · exact ⟨true, iff_of_true rfl h⟩
          · exact ⟨false, iff_of_false (by simp) h⟩
        have HXB := hid hxb; have HBm := hid hbm; have HB7' := hid hB7.out; have HO7 := hid hO7.out
        clear hB7 hO7 hbm hxb q3 q3d HLE HKC
        go_upto_region 11 with (fail)
        go_cut [50] (fun s50 wx => s50 = .bool xb ∧ (∃ qq, wx = wm.drewN qq))
        case first =>
          have hcs : (xb = true ∧ (kx == 5) = true ∧ decide ((e : Int) ≤ 6) = true ∧ (e : Int) ≤ 6) ∨ (xb = false ∧ (kx == 5) = true ∧ decide ((e : Int) ≤ 6) = false ∧ ¬ (e : Int) ≤ 6) ∨ (xb = false ∧ (kx == 5) = false) := by
            by_cases h5 : kx = 5
            · by_cases h6 : e ≤ 6
              · exact .inl ⟨HXB.out.2 ⟨h5, h6⟩, by simp [h5], decide_eq_true (by omega), by omega⟩
              · exact .inr (.inl ⟨by cases xb; rfl; exact absurd (HXB.out.1 rfl).2 h6, by simp [h5], decide_eq_false (by omega), by omega⟩)
            · exact .inr (.inr ⟨by cases xb; rfl; exact absurd (HXB.out.1 rfl).1 h5, by simp [h5]⟩)
          rcases hcs with ⟨rfl, e1, e2, e3⟩ | ⟨rfl, e1, e2, e3⟩ | ⟨rfl, e1⟩
          all_goals
            go_quiet (fail)
            go_wp2_with fail
            go_meet
            exact ⟨rfl, _, rfl⟩
        obtain ⟨rfl, qq, hwd⟩ := hcut
        obtain ⟨wd, rfl⟩ : ∃ W, W = wc := ⟨_, rfl⟩
        have hbd : Below wm.heap.size wm wd := by rw [hwd]; exact below_drewN (Below.refl _ _) _
        have HOD := hid (HOM.out.below hbd)
        have HOA := hid (own_base (own_keep HO7.out hbd) hBw)
        clear hwd hcm hkm' q4 hbd
        go_upto_if 50 with (fail)
        go_cut [11] (fun s11 wx => ∃ (d : Int) (PRE : List Nd) (v : Value), s11 = .int .i64 d ∧ Hid (PRE ++ E.map (ndD l d) = fltG l x) ∧ Hid (PRE.length ≤ 1) ∧ Hid (FK B w2 (D0 ++ PRE) v (some ⟨gk, 0, none⟩) c4 ng (kidsOf l (-1)) wx) ∧ Hid (wx.ownsRow (B + 1) 3 1 (.slice A7 e c7) e (ints (nz E))))
        case first =>
          cases xb with
          | true =>
            have h56 := HXB.out.1 rfl
            have hro : [ringN] ++ E.map (ndD l 1) = fltG l x := by rw [HFG.out, if_pos h56]; rfl
            have hOo := HOD.out.out.own
            rw [← HN0.out] at hOo
            obtain ⟨A5, c5, rfl⟩ := own_slice hOo
            have hoc := HOD.out.out.cell
            have pm0 := hoc.1
            have HOW := hid fun (X : Obj) => own_keep hOo ((Below.refl wd.heap.size wd).alloc (Nat.le_refl _) X)
            have HZB := hid (show B + 1 ≤ wd.heap.size from hoc.2.2)
            have HNY := hid fun (X : Obj) (v4 : Value) (w4 : World) (ho4 : w4.ownsRow (B + 1) 78 8 v4 (n0 + 1) (flatN D0 ++ ringN.cells)) (hg4 : (wd.alloc X).grownBy w4 (Value.slice A5 n0 c5).ownBlock) => FK.step (T := [ringN]) (k := 1) HOD.out ((Below.refl wd.heap.size wd).alloc (Nat.le_refl _) X) HN0.out rfl (by rw [flatN_sing]; exact ho4) hg4
            have HNZ := hid fun (X : Obj) (v4 : Value) (w4 : World) (hg4 : (wd.alloc X).grownBy w4 (Value.slice A5 n0 c5).ownBlock) => FK.other (v4 := v4) HOD.out ((Below.refl wd.heap.size wd).alloc (Nat.le_refl _) X) hg4 HOA.out (Nat.lt_succ_self B)
            have HRO := hid hro
            clear hOo hoc hro h56
            go_wp2_with (first | (at_builtin; refine app_elem rfl (.tmp 52) (.tmp 54) Try.underlying25 Try.infoNode rfl (by decide) (by decide) rfl (B + 1) _ n0 (flatN D0) rfl (HOW.out _) ⟨wd.heap.size, 0, none⟩ [.int .i64 5, .int .i64 0, .int .i64 0, .int .i64 0, .bool false, .int .i64 0, .int .i64 0, .int .i64 0] rfl rfl (cell_news_at _ _ _ (by simp)) (fun u hu => flatN_one (l := [ringN]) (by rw [flatN_sing]; exact hu)) (by omega) (by have := HZB.out; simp; omega) ?_; intro v8 w8 ho8 hg8; obtain ⟨p9, z9, ho9⟩ := HNY.out _ v8 w8 ho8 hg8; have HA8 := hid (HNZ.out _ v8 w8 hg8); obtain ⟨A8, c8, rfl⟩ := own_slice ho8; have HO9 := hid ho9; clear ho8 hg8 ho9))
            go_meet
            exact ⟨1, [ringN], _, rfl, HRO, hid (by simp), HO9, HA8⟩
          | false =>
            have hro : [] ++ E.map (ndD l 0) = fltG l x := by rw [HFG.out, if_neg (fun h => by have := HXB.out.2 h; cases this)]; rfl
            have HRO := hid hro
            clear hro
            go_wp2_with fail
            go_meet
            exact ⟨0, [], _, rfl, HRO, hid (by simp), by rw [List.append_nil]; exact HOD, HOA⟩
        obtain ⟨d, PRE, v9, rfl, hPR, hPl, hO9, hA9⟩ := hcut
        obtain ⟨wn, rfl⟩ : ∃ W, W = wc := ⟨_, rfl⟩
        clear HOD HOA HXB HFG HOM HO7 HO HB7' HBm hBw
        go_wp2_with fail
        go_loopw [12] (fun iv wx => ∃ (i2 : Nat) (v : Value), i2 ≤ e ∧ iv = .int .i64 i2 ∧ Hid (FK B w2 (D0 ++ PRE ++ (E.take i2).map (ndD l d)) v (some ⟨gk, 0, none⟩) c4 ng (kidsOf l (-1)) wx) ∧ Hid (wx.ownsRow (B + 1) 3 1 (.slice A7 e c7) e (ints (nz E)))) (fun iv _ => e - (intOf iv).toNat)
        case atStart => exact ⟨0, _, by omega, rfl, by simpa using hO9, hA9⟩
        case round =>
          obtain ⟨i2, v2, hi2, rfl, hFi, hAi⟩ := hrel
          have hbi : Below w1.heap.size w1 wr := HB2.out.trans (hFi.out.out.bel.mono hZ2)
          by_cases hie : i2 < e
          · have hil : i2 < E.length := by rw [← HE.out]; exact hie
            have hst : (E.take (i2 + 1)).map (ndD l d) = (E.take i2).map (ndD l d) ++ [ndD l d E[i2]] := by
              rw [List.take_add_one, List.getElem?_eq_getElem hil, Option.toList_some, List.map_append]; rfl
            obtain ⟨ga, ca9, hva, hga, hgla⟩ := own_some hAi.out (by omega)
            simp only [Value.slice.injEq, true_and] at hva
            obtain ⟨rfl, rfl⟩ := hva
            have hcell2 := hAi.out.cellAt i2 (by omega)
            have e8 : (nz E).getD i2 0 = (E[i2] : Int) := by simp [nz, List.getD_eq_getElem?_getD, hil]
            rw [ints_get (by rw [nz_len]; exact hil), e8] at hcell2
            have hy := HEM.out _ (List.getElem_mem hil)
            generalize E[i2] = y at hst hcell2 hy
            have hyl : y < l.length := by rw [← HNN.out]; exact hy
            have hnd := (HNX.out y hyl).below (HW.out _ hbi) hbB
            have hnD := ndD_at (d := d) hyl
            generalize l[y]'hyl = nd0 at hnd hnD
            obtain ⟨kk, dp, sg, tn, mi, st, mn, mx⟩ := nd0
            have d1 := hnd.kind; have d2 := hnd.depth; have d3 := hnd.sign; have d4 := hnd.turn; have d5 := hnd.mir; have d6 := hnd.state; have d7 := hnd.mn; have d8 := hnd.mx
            simp only [] at d1 d2 d3 d4 d5 d6 d7 d8 hnD
            have q3 := HC3.out wr hbi
            have g5 : (i2 : Int) < (e : Int) := by omega
            have g6 : (y : Int) < (n : Int) := by omega
            obtain ⟨D1, hD1⟩ : ∃ D1, D1 = D0 ++ PRE ++ (E.take i2).map (ndD l d) := ⟨_, rfl⟩
            have hDl : D1.length ≤ 3000000 := by rw [hD1, List.length_append, List.length_append, List.length_map, List.length_take, ← HN0.out]; have := hPl.out; omega
            rw [← hD1] at hFi
            have HST := hid (show D0 ++ PRE ++ (E.take (i2 + 1)).map (ndD l d) = D1 ++ [⟨kk, d, sg, tn, mi, st, mn, mx⟩] from by rw [hst, ← List.append_assoc, ← hD1, hnD])
            have HFi := hid hFi.out; have HAi := hid hAi.out
            clear hst hnd hnD hD1 hFi hAi e8 hil hyl
            go_upto_region 17 with (fail)
            go_cut [13] (fun s13 wx => s13 = .pointer (some ⟨wr.heap.size, 0, none⟩) ∧ Hid (wx = (wr.alloc (.cells #[.int .i64 kk, .int .i64 dp, .int .i64 sg, .int .i64 tn, .bool mi, .int .i64 st, .int .i64 mn, .int .i64 mx] 78)).drew ∨ wx = wr.drew.alloc (.cells #[.int .i64 kk, .int .i64 dp, .int .i64 sg, .int .i64 tn, .bool mi, .int .i64 st, .int .i64 mn, .int .i64 mx] 78)))
            case first =>
              have q3a := fun (X : Obj) => HC3.out _ (hbi.alloc hbi.size X)
              have hca := fun (X : Obj) => cell_old (o := X) hcell2
              have a1 := fun (X : Obj) => cell_old (o := X) d1
              have a2 := fun (X : Obj) => cell_old (o := X) d2
              have a3 := fun (X : Obj) => cell_old (o := X) d3
              have a4 := fun (X : Obj) => cell_old (o := X) d4
              have a5 := fun (X : Obj) => cell_old (o := X) d5
              have a6 := fun (X : Obj) => cell_old (o := X) d6
              have a7 := fun (X : Obj) => cell_old (o := X) d7
              have a8 := fun (X : Obj) => cell_old (o := X) d8
              go_region_law (fail)
              all_goals
                go_wp2_with fail
                go_meet
                first | exact ⟨rfl, hid (.inl rfl)⟩ | exact ⟨rfl, hid (.inr rfl)⟩
            obtain ⟨rfl, hW9⟩ := hcut
            obtain ⟨wq, rfl⟩ : ∃ W, W = wc := ⟨_, rfl⟩
            have hx9 : wq.heap[wr.heap.size]? = some (.cells #[.int .i64 kk, .int .i64 dp, .int .i64 sg, .int .i64 tn, .bool mi, .int .i64 st, .int .i64 mn, .int .i64 mx] 78 (0, 0)) := by
              rcases hW9.out with h | h
              · rw [h]; exact heap_nw (w := wr) rfl
              · rw [h]; exact heap_nw (w := wr.drew) rfl
            have hbq : Below wr.heap.size wr wq := by
              rcases hW9.out with h | h
              · rw [h]; exact ((Below.refl _ _).alloc (Nat.le_refl _) _).drew
              · rw [h]; exact (Below.refl _ _).drew.alloc (Nat.le_refl _) _
            clear hW9 q3 hcell2 d1 d2 d3 d4 d5 d6 d7 d8 hbi
            obtain ⟨bx, hbx⟩ : ∃ bx, bx = wr.heap.size := ⟨_, rfl⟩
            have hFq := HFi.out.below hbq
            have hAq := own_keep HAi.out hbq
            have hBbx : B < bx := by rw [hbx]; exact HFi.out.out.cell.2.2
            have hbbq : Below bx wr wq := by rw [hbx]; exact hbq
            rw [← hbx] at hx9
            rw [← hbx]
            have u1 : wq.cell? ⟨bx, 0, none⟩ = some (.int .i64 kk) := by simp [World.cell?, hx9]
            have u2 : wq.cell? ⟨bx, 1, none⟩ = some (.int .i64 dp) := by simp [World.cell?, hx9]
            have u3 : wq.cell? ⟨bx, 2, none⟩ = some (.int .i64 sg) := by simp [World.cell?, hx9]
            have u4 : wq.cell? ⟨bx, 3, none⟩ = some (.int .i64 tn) := by simp [World.cell?, hx9]
            have u5 : wq.cell? ⟨bx, 4, none⟩ = some (.bool mi) := by simp [World.cell?, hx9]
            have u6 : wq.cell? ⟨bx, 5, none⟩ = some (.int .i64 st) := by simp [World.cell?, hx9]
            have u7 : wq.cell? ⟨bx, 6, none⟩ = some (.int .i64 mn) := by simp [World.cell?, hx9]
            have u8 : wq.cell? ⟨bx, 7, none⟩ = some (.int .i64 mx) := by simp [World.cell?, hx9]
            have u9 : wq.frozen? ⟨bx, 1, none⟩ = false := by simp [World.frozen?, hx9]
            have hne1 : ∀ g, (Value.slice (some ⟨ga, 0, none⟩) e c7).ownBlock = some g → g < bx := fun g h => by rw [hbx]; exact (HAi.out.lt _ h).2
            have hne2 : ∀ g, v2.ownBlock = some g → g < bx := fun g h => by rw [hbx]; exact (HFi.out.out.own.lt _ h).2
            have hne3 : ∀ g, (Value.slice (some ⟨gk, 0, none⟩) ng c4).ownBlock = some g → g < bx := fun g h => by rw [hbx]; exact (HFi.out.sp.lt _ h).2
            obtain ⟨wS, hwS⟩ : ∃ W, W = wq.setCell ⟨bx, 1, none⟩ (.int .i64 d) := ⟨_, rfl⟩
            have hFS : FK B w2 D1 v2 (some ⟨gk, 0, none⟩) c4 ng (kidsOf l (-1)) wS := by
              rw [hwS]
              exact ⟨⟨(Below.heap_setCell _ _ _ _ (by simp; omega)).trans hFq.out.o_, ownsRow_setCell_other hFq.out.own (a := ⟨bx, 1, none⟩) (fun h => by have := hne2 _ h; simp at this) _, hFq.out.bel.setCell (by simp; omega) _⟩, ownsRow_setCell_other hFq.sp (a := ⟨bx, 1, none⟩) (fun h => by have := hne3 _ h; simp at this) _⟩
            have hAS : wS.ownsRow (B + 1) 3 1 (.slice (some ⟨ga, 0, none⟩) e c7) e (ints (nz E)) := by
              rw [hwS]
              exact ownsRow_setCell_other hAq (a := ⟨bx, 1, none⟩) (fun h => by have := hne1 _ h; simp at this) _
            have s1 : wS.cell? ⟨bx, 0, none⟩ = some (.int .i64 kk) := by rw [hwS]; exact cell_set_far u1 (.inr (by decide))
            have s2 : wS.cell? ⟨bx, 1, none⟩ = some (.int .i64 d) := by rw [hwS]; exact World.cell?_setCell_same _ _ _ u2
            have s3 : wS.cell? ⟨bx, 2, none⟩ = some (.int .i64 sg) := by rw [hwS]; exact cell_set_far u3 (.inr (by decide))
            have s4 : wS.cell? ⟨bx, 3, none⟩ = some (.int .i64 tn) := by rw [hwS]; exact cell_set_far u4 (.inr (by decide))
            have s5 : wS.cell? ⟨bx, 4, none⟩ = some (.bool mi) := by rw [hwS]; exact cell_set_far u5 (.inr (by decide))
            have s6 : wS.cell? ⟨bx, 5, none⟩ = some (.int .i64 st) := by rw [hwS]; exact cell_set_far u6 (.inr (by decide))
            have s7 : wS.cell? ⟨bx, 6, none⟩ = some (.int .i64 mn) := by rw [hwS]; exact cell_set_far u7 (.inr (by decide))
            have s8 : wS.cell? ⟨bx, 7, none⟩ = some (.int .i64 mx) := by rw [hwS]; exact cell_set_far u8 (.inr (by decide))
            obtain ⟨n1, hn1⟩ : ∃ n1, n1 = D1.length := ⟨_, rfl⟩
            have hOo := hFS.out.own
            rw [← hn1] at hOo hDl
            obtain ⟨A5, c5, rfl⟩ := own_slice hOo
            have hoc := hFS.out.cell
            have pm0 := hoc.1
            have HZB := hid (show B + 1 ≤ wS.heap.size from hoc.2.2)
            have HOW := hid fun (X : Obj) => own_keep hOo ((Below.refl wS.heap.size wS).alloc (Nat.le_refl _) X)
            have HN1 := hid hn1
            have HNY := hid fun (X : Obj) (v4 : Value) (w4 : World) (ho4 : w4.ownsRow (B + 1) 78 8 v4 (n1 + 1) (flatN D1 ++ [.int .i64 kk, .int .i64 d, .int .i64 sg, .int .i64 tn, .bool mi, .int .i64 st, .int .i64 mn, .int .i64 mx])) (hg4 : (wS.alloc X).grownBy w4 (Value.slice A5 n1 c5).ownBlock) => FK.step (T := [⟨kk, d, sg, tn, mi, st, mn, mx⟩]) (k := 1) hFS ((Below.refl wS.heap.size wS).alloc (Nat.le_refl _) X) HN1.out rfl (by rw [flatN_sing]; exact ho4) hg4
            have HNZ := hid fun (X : Obj) (v4 : Value) (w4 : World) (hg4 : (wS.alloc X).grownBy w4 (Value.slice A5 n1 c5).ownBlock) => FK.other (v4 := v4) hFS ((Below.refl wS.heap.size wS).alloc (Nat.le_refl _) X) hg4 hAS (Nat.lt_succ_self B)
            have HWS := hid hwS
            clear hwS hFS hAS hOo hoc hn1 hne1 hne2 hne3 hFq hAq hx9 hbq hbbq hBbx hbx HFi HAi
            go_upto_region 19 with (fail)
            rw [← HWS.out]
            clear u1 u2 u3 u4 u5 u6 u7 u8 u9 HWS
            go_wp2_with (first | (at_builtin; refine app_elem rfl (.tmp 74) (.tmp 76) Try.underlying25 Try.infoNode rfl (by decide) (by decide) rfl (B + 1) _ n1 (flatN D1) rfl (HOW.out _) ⟨wS.heap.size, 0, none⟩ [.int .i64 kk, .int .i64 d, .int .i64 sg, .int .i64 tn, .bool mi, .int .i64 st, .int .i64 mn, .int .i64 mx] rfl rfl (cell_news_at _ _ _ (by simp)) (fun u hu => flatN_one (l := [⟨kk, d, sg, tn, mi, st, mn, mx⟩]) (by rw [flatN_sing]; exact hu)) (by omega) (by have := HZB.out; simp; omega) ?_; intro v8 w8 ho8 hg8; obtain ⟨p9, z9, ho9⟩ := HNY.out _ v8 w8 ho8 hg8; have HA8 := hid (HNZ.out _ v8 w8 hg8); obtain ⟨A8, c8, rfl⟩ := own_slice ho8; have HO9 := hid ho9; clear ho8 hg8 ho9))
            go_roundw
            case rel => exact ⟨i2 + 1, _, by omega, by go_num, by rw [HST.out]; exact HO9, HA8⟩
            case measure => simp [intOf]; omega
          · obtain rfl : e = i2 := by omega
            have g5 : decide (e < e) = false := by simp
            have hFq := hFi.out
            have htk : E.take e = E := by rw [HE.out, List.take_length]
            rw [htk, List.append_assoc, hPR.out, ← HFS.out] at hFq
            have HFQ := hid hFq
            clear hFq htk
            go_wp2_with fail
            go_roundw
            case rel => exact ⟨j + 1, _, by omega, by go_num, HFQ⟩
            case measure => simp [intOf]; omega
      · obtain rfl : ng = j := by omega
        have g0 : decide (ng < ng) = false := by simp
        have hOb := hO.out
        have hLL : L = fltK l ng := by rw [X2.out, HFE.out, ← HNG.out]
        rw [← hLL] at hOb
        have p4 := HC4.out wr hbw; have z4 := HZ4.out wr hbw
        obtain ⟨K, hK⟩ : ∃ K, K = L.length := ⟨_, rfl⟩
        have hOo := hOb.out.own
        rw [← hK] at hOo
        obtain ⟨A9, c9, rfl⟩ := own_slice hOo
        have x0 := hOb.out.cell.1
        have HOo := hid hOo; have HBN := hid hbw; have HKK := hid hK
        have hBlt : w.heap.size ≤ B + 1 := by have := (HW.out _ HB2.out).size; have := HBb.out; omega
        have hB2 : B2 < B := by have := HB2.out.size; have := HBb.out; omega
        have HLT := hid hBlt; have HB2' := hid hB2
        clear hO hOb hOo hbw hK hLL hBlt hB2
        go_wp2_with fail
        have hq := World.cell?_setCell_same _ _ (.slice A9 K c9) p4
        have h9 := HOo.out
        have hne : (Value.slice A9 K c9).ownBlock ≠ some B2 := fun he => by have := (h9.lt _ he).1; have := HB2'.out; omega
        have h10 := own_base (ownsRow_setCell_other h9 (a := (⟨B2, 0, none⟩ : Addr)) hne (.slice A9 K c9)) HLT.out
        exact bodyPost_ret (v := .tuple #[.agg #[.slice A9 K c9], .int .i64 0]) (by simp [results, Try.results53, go_sem, hq]) rfl ⟨.slice A9 K c9, rfl, by rw [← HKK.out]; exact h10, (HW.out _ HBN.out).setCell hlt _⟩
  · have f0 : (CE != 0) = true := by simp [hCE]
    have x2 := M1.out hCE
    have X2 := hid x2
    clear x2
    clear M1 M2 hCE
    go_wp2_with (first | (go_at_call 20; refine HCK.out.mono ?_; rintro e w2 ⟨rfl, hb2'⟩; have p4 := HC4.out w2 hb2'; have q4 := HZ4.out w2 hb2'; have HB2 := hid hb2'; clear hb2' HCK c0 c1 c3 c4 z4))
    have hq := World.cell?_setCell_same _ _ (.slice none 0 0) p4
    exact bodyPost_ret (v := .tuple #[.agg #[.slice none 0 0], .int .i64 CE]) (by simp [results, Try.results53, go_sem, hq]) rfl ⟨.slice none 0 0, rfl, by rw [X2.out]; exact World.ownsRow_nil _ _ _ _, (HW.out _ HB2.out).setCell hlt _⟩
end Go.Proofs.Ytddbnggficlcfaa
