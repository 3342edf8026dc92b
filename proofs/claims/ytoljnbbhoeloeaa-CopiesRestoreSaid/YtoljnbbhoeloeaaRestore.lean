/- WALK: the law CopiesRestore. -/
import Derived.Test.YtoljnbbhoeloeaaResL
import Derived.Test.YtoljnbbhoeloeaaVaries
import Derived.Test.YtoljnbbhoeloeaaApplyW
namespace Go.Proofs.Ytoljnbbhoeloeaa
open Go.RowKit
theorem Try.infoBool : (Try.prog.info? 4).map (fun i => (i.zero, i.size, i.bytes)) = some (some (.bool false), 1, 1) := by kernel_rfl
theorem rowIs_below {w w' : World} {b n : Nat} {t : TypeId} {f : Nat → Value} (h : w.rowIs b t n f) (hb : Below w.heap.size w w') : w'.rowIs b t n f := by
  obtain ⟨c, h1, h2, h3⟩ := h
  refine ⟨c, ?_, h2, h3⟩
  have hlt : b < w.heap.size := by
    rcases Nat.lt_or_ge b w.heap.size with h | h
    · exact h
    · rw [Array.getElem?_eq_none h] at h1; cases h1
  rw [hb.block b hlt]; exact h1
theorem rb_row {w : World} {b n : Nat} {t : TypeId} {f : Nat → Value} {l : List Bool} (h : w.rowIs b t n f) (hl : l.length = n) (hf : ∀ i (hi : i < l.length), f i = .bool l[i]) : Rb w w.heap.size (some ⟨b, 0, none⟩) l := by
  refine ⟨by simp, fun hn => ⟨_, rfl, h.lt, fun j u hu => ?_⟩⟩
  obtain ⟨hj, rfl⟩ := List.getElem?_eq_some_iff.1 hu
  have hj' : j < l.length := by simpa using hj
  rw [Addr.add_lit, Nat.zero_add, h.cell (by omega), hf j hj']
  simp
theorem verr_one (a b : List Int) : vErr a [b] = 0 ↔ linesErr [a, b] = 0 := by
  unfold vErr
  simp only [linesErr, List.length_cons, List.length_nil]
  by_cases h1 : lineErr a = 0 <;> by_cases h2 : lineErr b = 0 <;> simp [h1, h2]
theorem of_sorted (a b : List Int) : (raw a [b] 1).Pairwise (fun x y => x.1 ≤ y.1) := by
  have h := strs_chain a b
  simp only [raw, List.nil_append, ofCopy, List.getD_cons_zero]
  rw [List.pairwise_map]
  exact h.imp fun h => by simp; omega
theorem one_raw (a b : List Int) : raw a [b] 1 = ofCopy a 0 b := rfl
theorem row_drewN {w : World} {b n : Nat} {t : TypeId} {f : Nat → Value} (h : w.rowIs b t n f) (q : Nat) : (w.drewN q).rowIs b t n f := h
theorem esx {a b : List Int} {es : List En} (h : es.map dec = ofCopy a 0 b) {k : Nat} (hk : k < es.length) (hk2 : k < (strs a b).length) : es[k].1 = ((strs a b)[k].1 : Int) ∧ es[k].2.1 = 0 ∧ es[k].2.2.2 = (strs a b)[k].2.2 := by
  have h1 := congrArg (fun x => x[k]?) h
  simp only [ofCopy, List.getElem?_map, List.getElem?_eq_getElem hk, List.getElem?_eq_getElem hk2, Option.map_some, Option.some.injEq, dec, Prod.mk.injEq] at h1
  exact h1
set_option maxRecDepth 100000 in
set_option maxHeartbeats 4000000 in
theorem restore_any (a b : List Int) (Aa Ab : Option Addr) (ca cb : Nat) (hnil : Aa = none → ca = 0) (hcap : a.length ≤ ca) (w : World) (ra : Rd w w.heap.size Aa a) (rb : Rd w w.heap.size Ab b) :
    Calls Try.prog 9 #[.slice Aa a.length ca, .slice Ab b.length cb] w fun e w' => e = .returned (.bool true) ∧ Below w.heap.size w w' := by
  have var := fun (x : List Int) (A : Option Addr) (c : Nat) W (r1 : Rd W W.heap.size Aa a) (r2 : Rd W W.heap.size A x) => variants_full a [(A, c, x)] Aa (some ⟨W.heap.size, 0, none⟩) ca 1 (W.alloc (.cells #[.slice A x.length c] 22)) ((r1.below ((Below.refl _ _).alloc (Nat.le_refl _) _)).more (by simp)) (by have := Lns.one (c := c) 22 r2; simpa using this)
  have fin : Hid (∀ W W', Below w.heap.size w W → Below W.heap.size W W' → Below w.heap.size w W') := fun W W' h h' => h.trans (h'.mono h.size)
  have h1 := var b Ab cb w ra rb
  rw [show sig [(Ab, cb, b)] = [b] from rfl] at h1
  simp only [List.length_cons, List.length_nil, Nat.zero_add] at h1
  by_cases h0 : vErr a [b] = 0
  · have hle := (verr_one a b).1 h0
    obtain ⟨ha, hb⟩ := two_ok hle
    have hself : vErr a [a] = 0 := (verr_one a a).2 (by
      have : lineErr a = 0 := linesErr_all hle a (by simp)
      simp [linesErr, this])
    have h2 := fun W (r1 : Rd W W.heap.size Aa a) => var a Aa ca W r1 r1
    rw [show sig [(Aa, ca, a)] = [a] from rfl, hself] at h2
    simp only [List.length_cons, List.length_nil, Nat.zero_add] at h2
    rw [h0] at h1
    have hx := fun (at_ : Int) W (r1 : Rd W W.heap.size Aa a) (r2 : Rd W W.heap.size Ab b) => extent_any a b at_ Aa Ab ca cb W r1 r2
    have hap := fun (ch : List Bool) (Ac : Option Addr) (cc : Nat) W (r1 : Rd W W.heap.size Aa a) (r2 : Rd W W.heap.size Ab b) (r3 : Rb W W.heap.size Ac ch) => apply_any a b ch Aa Ab Ac ca cb cc hnil hcap W r1 r2 r3
    have hst1 := of_sorted a b
    have H1 := hid h1; have H2 := hid h2; have HX := hid hx; have HAP := hid hap; have Ra := hid ra; have Rbb := hid rb; have Hle := hid hle; have Hso := hid hst1
    have hsab := fun W (r1 : Rd W W.heap.size Aa a) (r2 : Rd W W.heap.size Ab b) => same_any a b Aa Ab ca cb (by omega) W W.heap.size r1 r2
    have HSAB := hid hsab
    clear h1 h2 hx hap ra rb hle hself h0 hst1 hsab var hnil hcap
    obtain ⟨la, hla⟩ : ∃ la, la = a.length := ⟨_, rfl⟩
    obtain ⟨lb, hlb⟩ : ∃ lb, lb = b.length := ⟨_, rfl⟩
    rw [← hla, ← hlb]
    rw [← hla] at ha
    rw [← hlb] at hb
    have Hla := hid hla; have Hlb := hid hlb
    clear hla hlb
    go_enter Try.func9, Try.ntmps9
    go_wp2_with fail
    rw [Hla.out, Hlb.out]
    refine H1.out.mono ?_
    rintro e w1 ⟨v, es, rfl, hS, hst, -, hb1⟩
    rw [← Hla.out, ← Hlb.out]
    obtain ⟨A, c, rfl⟩ := own_slice hS.own
    have hes : es.map dec = ofCopy a 0 b := (hst trivial).eq Hso.out
    have HB1 := hid (fin.out w _ (Below.refl _ _) ((((Below.refl w.heap.size w).alloc (Nat.le_refl _) _)).trans (hb1.mono (by simp))))
    have hlen : es.length = (strs a b).length := by have := congrArg List.length hes; simpa [ofCopy] using this
    have hl120 : (strs a b).length ≤ 120 := by have := (strs_bd a b).1; have := Hla.out; have := Hlb.out; omega
    obtain ⟨n, hn⟩ : ∃ n, n = es.length := ⟨_, rfl⟩
    have hn120 : n ≤ 120 := by omega
    have HS := hid hS; have Hes := hid hes; have Hlen := hid hlen
    rw [← hn]
    have Hn := hid hn
    clear hS hst hes hlen hl120 hn hb1
    have hmk : ∀ W, (Instr.makeSlice 55 (.int .i64 (n : Int)) (.int .i64 (n : Int))).run Try.prog W = .ok (.slice (some ⟨W.heap.size, 0, none⟩) n n) (W.alloc (.cells (madeCells #[.bool false] n) 4)) := fun W => by
      exact run_make_row' (P := Try.prog) 55 4 (.bool false) 1 Try.underlying55 Try.infoBool rfl .i64 .i64 n (by omega) (by omega) W
    have HR0 := hid (show World.rowIs ((w1.alloc (.cells (madeCells #[.bool false] n) 4)).alloc (.cells (madeCells #[.bool false] n) 4)).drew w1.heap.size 4 n (fun _ => .bool false) from (World.rowIs_made w1 (.bool false) n 4).alloc _)
    have HR1 := hid (show World.rowIs ((w1.alloc (.cells (madeCells #[.bool false] n) 4)).alloc (.cells (madeCells #[.bool false] n) 4)).drew (w1.heap.size + 1) 4 n (fun _ => .bool false) from by have := World.rowIs_made (w1.alloc (.cells (madeCells #[.bool false] n) 4)) (.bool false) n 4; rw [show (w1.alloc (.cells (madeCells #[.bool false] n) 4)).heap.size = w1.heap.size + 1 by simp] at this; exact this)
    have HB3 := hid (((Below.refl w1.heap.size w1).alloc (Nat.le_refl _) (.cells (madeCells #[.bool false] n) 4)).alloc (by simp) (.cells (madeCells #[.bool false] n) 4)).drew
    have xb : ∀ x ∈ strs a b, x.1 ≤ 120 ∧ x.2.1 ≤ 120 ∧ x.1 + x.2.1 ≤ la ∧ 1 ≤ x.2.1 + x.2.2.length := fun x hx => by have h1 := strs_bds a b x hx; have h2 := strs_end a b x hx; have h3 := strs_ne a b x hx; have := Hla.out; have := Hlb.out; omega
    go_wp2_with fail
    go_region
    clear hmk
    · have hby : (((w1.alloc (.cells (madeCells #[.bool false] n) 4)).alloc (.cells (madeCells #[.bool false] n) 4)).drew).rowIs (w1.heap.size) 4 n (fun _ => .bool false) := HR0.out
      have hbn : (((w1.alloc (.cells (madeCells #[.bool false] n) 4)).alloc (.cells (madeCells #[.bool false] n) 4)).drew).rowIs (w1.heap.size + 1) 4 n (fun _ => .bool false) := HR1.out
      have hb3 : Below w1.heap.size w1 (((w1.alloc (.cells (madeCells #[.bool false] n) 4)).alloc (.cells (madeCells #[.bool false] n) 4)).drew) := HB3.out
      obtain ⟨gy, hgy⟩ : ∃ gy, gy = w1.heap.size := ⟨_, rfl⟩
      obtain ⟨gn, hgn⟩ : ∃ gn, gn = w1.heap.size + 1 := ⟨_, rfl⟩
      obtain ⟨w3, hw3⟩ : ∃ w3, w3 = ((w1.alloc (.cells (madeCells #[.bool false] n) 4)).alloc (.cells (madeCells #[.bool false] n) 4)).drew := ⟨_, rfl⟩
      have hyn : gy ≠ gn := by omega
      have hy1 : w1.heap.size ≤ gy := by omega
      have hn1 : w1.heap.size ≤ gn := by omega
      rw [← hw3] at hby hbn hb3 ⊢
      rw [← hgn] at hbn ⊢
      rw [← hgy] at hby ⊢
      have HRy := hid hby; have HRn := hid hbn; have HBw := hid hb3
      clear hgy hgn hw3 hby hbn hb3
      go_wp2_with fail
      go_loopw [9] (fun i wr => ∃ k : Nat, k ≤ n ∧ i = .int .i64 k ∧ Hid (wr.rowIs gy 4 n (fun x => if x < k then .bool true else .bool false)) ∧ Hid (wr.rowIs gn 4 n (fun _ => .bool false)) ∧ Hid (Below w1.heap.size w1 wr)) (fun i _ => n - (intOf i).toNat)
      case atStart => exact ⟨0, by omega, rfl, HRy.out.congr (fun x hx => by rw [if_neg (by omega)]), HRn.out, HBw.out⟩
      case round =>
        clear HRy HRn HBw
        obtain ⟨k, hk, rfl, HY, HN, HW⟩ := hrel
        have fin2 : Hid (∀ W, Below w1.heap.size w1 W → Below w.heap.size w W) := fun W h => HB1.out.trans (h.mono HB1.out.size)
        by_cases hkn : k < n
        · have hk1 : k < es.length := by rw [← Hn.out]; exact hkn
          have hk2 : k < (strs a b).length := by rw [← Hlen.out]; exact hk1
          obtain ⟨g, cg, hv, hg0, hg, q1, q2, q3⟩ := HS.out.at hk1
          injection hv with hA hle hc
          subst hA; subst hc
          clear hle hg0
          obtain ⟨A3, c3, hv3⟩ := own_slice (HS.out.cl _ (List.getElem_mem hk1)).1
          have hd := esx Hes.out hk1 hk2
          have hx := xb _ (List.getElem_mem hk2)
          have hev : extV a b (((strs a b)[k].1 : Nat) : Int) = (((strs a b)[k].2.1 : Int), 0) := by
            unfold extV
            rw [if_pos Hle.out]
            exact extR_hit hk2 (fun j hj hjk => by have := List.pairwise_iff_getElem.1 (strs_chain a b) j k hj hk2 hjk; omega) rfl
          obtain ⟨d1, d2, d3⟩ := hd
          rw [hv3, d3] at q3
          rw [d1] at q1
          rw [d2] at q2
          have hprev : ∀ kp, k = kp + 1 → ∃ xp : Nat, w1.cell? ⟨g, kp * 3, none⟩ = some (.int .i64 xp) ∧ xp < (strs a b)[k].1 := fun kp hkp => by
            have hp1 : kp < es.length := by omega
            have hp2 : kp < (strs a b).length := by omega
            obtain ⟨g', cg', hv', _, _, r1, _, _⟩ := HS.out.at hp1
            injection hv' with hA' _ _
            injection hA' with hA'
            injection hA' with hA' _ _
            subst hA'
            rw [(esx Hes.out hp1 hp2).1] at r1
            have := List.pairwise_iff_getElem.1 (strs_chain a b) kp k hp2 hk2 (by omega)
            exact ⟨_, r1, by omega⟩
          generalize (strs a b)[k] = X at *
          obtain ⟨x1, x2, sg⟩ := X
          simp only at q1 q2 q3 hx hev hprev
          obtain ⟨ls, hls⟩ : ∃ ls, ls = sg.length := ⟨_, rfl⟩
          rw [← hls] at q3 hx
          have HEV := hid hev; have Hprev := hid hprev
          clear hls hev hprev d1 d2 d3 hv3 hk1 hk2
          have hgy : gy ≠ g := by omega
          have hgr : g < wr.heap.size := Nat.lt_of_lt_of_le hg HW.out.size
          have s1 : wr.cell? ⟨gy, k, none⟩ = some (.bool false) := by rw [HY.out.cell (by omega), if_neg (by omega)]
          have s2 : wr.frozen? ⟨gy, k, none⟩ = false := HY.out.frozen k
          have s3 : gy < wr.heap.size := HY.out.lt
          have hY2 : (wr.setCell ⟨gy, k, none⟩ (.bool true)).rowIs gy 4 n (fun x => if x < k + 1 then .bool true else .bool false) := (HY.out.set k _).congr (fun x hx => by
            by_cases e : x = k
            · subst e; rw [if_pos (by omega)]; simp
            · rw [if_neg e]
              by_cases h1 : x < k
              · rw [if_pos h1, if_pos (by omega)]
              · rw [if_neg h1, if_neg (by omega)])
          have hN2 : (wr.setCell ⟨gy, k, none⟩ (.bool true)).rowIs gn 4 n (fun _ => .bool false) := HN.out.setOther (by simp; omega) _
          have hW2 : Below w1.heap.size w1 (wr.setCell ⟨gy, k, none⟩ (.bool true)) := HW.out.setCell hy1 _
          have e1 := cell_set_far (g := gy) (k := k) (v := .bool true) ((HW.out.cell (p := ⟨g, k * 3, none⟩) hg).trans q1) (.inl hgy)
          have e2 := cell_set_far (g := gy) (k := k) (v := .bool true) ((HW.out.cell (p := ⟨g, k * 3 + 1, none⟩) hg).trans q2) (.inl hgy)
          have e3 := cell_set_far (g := gy) (k := k) (v := .bool true) ((HW.out.cell (p := ⟨g, k * 3 + 2, none⟩) hg).trans q3) (.inl hgy)
          have HY2' := hid hY2; have HN2' := hid hN2; have HW2' := hid hW2
          clear hY2 hN2 hW2 HY HN
          by_cases hk0 : k = 0
          · subst hk0
            go_wp2_with fail
            go_quiet (fail)
            have HWd := hid (below_drewN HW2'.out nq)
            go_wp2_with fail
            rw [Hla.out, Hlb.out]
            refine (HX.out _ _ ((Ra.out.below (fin2.out _ HWd.out)).more (fin2.out _ HWd.out).size) ((Rbb.out.below (fin2.out _ HWd.out)).more (fin2.out _ HWd.out).size)).mono ?_
            rintro e w5 ⟨rfl, hb5⟩
            rw [← Hla.out, ← Hlb.out, HEV.out]
            have HB5 := hid (HWd.out.trans (hb5.mono HWd.out.size))
            have HY5 := hid (rowIs_below (row_drewN HY2'.out nq) hb5)
            have HN5 := hid (rowIs_below (row_drewN HN2'.out nq) hb5)
            have m1 := (HB5.out.cell (p := ⟨g, 0 * 3, none⟩) hg).trans q1
            have m3 := (HB5.out.cell (p := ⟨g, 0 * 3 + 2, none⟩) hg).trans q3
            obtain ⟨hx1, hx2, hx3, hx4⟩ := hx
            have n1 : ¬ la < x1 + x2 := by omega
            have n2 : ¬ ((la : Int) < (x1 : Int) + (x2 : Int)) := by omega
            clear hb5 e1 e2 e3 s1 s2 q1 q2 q3
            by_cases hx0 : x2 = 0
            · have hls0 : ¬ ls = 0 := by omega
              have hls1 : ((ls : Int) == 0) = false := by simp; omega
              have n3 : ¬ la < x1 := by omega
              have n4 : ¬ ((la : Int) < (x1 : Int)) := by omega
              subst hx0
              clear n1 n2
              go_wp2_with fail
              go_roundw
              case rel => exact ⟨0 + 1, by omega, by go_num, HY5.out, HN5.out, HB5.out⟩
              case measure => simp [intOf]; omega
            · go_wp2_with fail
              go_roundw
              case rel => exact ⟨0 + 1, by omega, by go_num, HY5.out, HN5.out, HB5.out⟩
              case measure => simp [intOf]; omega
          · obtain ⟨kp, rfl⟩ : ∃ kp, k = kp + 1 := ⟨k - 1, by omega⟩
            obtain ⟨xp, r1, hxp⟩ := Hprev.out kp rfl
            have f1 := cell_set_far (g := gy) (k := kp + 1) (v := .bool true) ((HW.out.cell (p := ⟨g, kp * 3, none⟩) hg).trans r1) (.inl hgy)
            go_wp2_with fail
            go_quiet (fail)
            have HWd := hid (below_drewN HW2'.out nq)
            go_wp2_with fail
            rw [Hla.out, Hlb.out]
            refine (HX.out _ _ ((Ra.out.below (fin2.out _ HWd.out)).more (fin2.out _ HWd.out).size) ((Rbb.out.below (fin2.out _ HWd.out)).more (fin2.out _ HWd.out).size)).mono ?_
            rintro e w5 ⟨rfl, hb5⟩
            rw [← Hla.out, ← Hlb.out, HEV.out]
            have HB5 := hid (HWd.out.trans (hb5.mono HWd.out.size))
            have HY5 := hid (rowIs_below (row_drewN HY2'.out nq) hb5)
            have HN5 := hid (rowIs_below (row_drewN HN2'.out nq) hb5)
            have m1 := (HB5.out.cell (p := ⟨g, (kp + 1) * 3, none⟩) hg).trans q1
            have m3 := (HB5.out.cell (p := ⟨g, (kp + 1) * 3 + 2, none⟩) hg).trans q3
            obtain ⟨hx1, hx2, hx3, hx4⟩ := hx
            have n1 : ¬ la < x1 + x2 := by omega
            have n2 : ¬ ((la : Int) < (x1 : Int) + (x2 : Int)) := by omega
            clear hb5 e1 e2 e3 s1 s2 q1 q2 q3 f1 r1
            by_cases hx0 : x2 = 0
            · have hls0 : ¬ ls = 0 := by omega
              have hls1 : ((ls : Int) == 0) = false := by simp; omega
              have n3 : ¬ la < x1 := by omega
              have n4 : ¬ ((la : Int) < (x1 : Int)) := by omega
              subst hx0
              clear n1 n2
              go_wp2_with fail
              go_roundw
              case rel => exact ⟨kp + 1 + 1, by omega, by go_num, HY5.out, HN5.out, HB5.out⟩
              case measure => simp [intOf]; omega
            · go_wp2_with fail
              go_roundw
              case rel => exact ⟨kp + 1 + 1, by omega, by go_num, HY5.out, HN5.out, HB5.out⟩
              case measure => simp [intOf]; omega
        · obtain rfl : k = n := by omega
          have hns : (strs a b).length = k := by rw [← Hlen.out, Hn.out]
          have hv1 : apV a b (List.replicate k true) = (b, 0) := by
            unfold apV
            rw [if_pos Hle.out, if_pos (by simp [hns]), ← hns, ap_all]
          have hv2 : apV a b (List.replicate k false) = (a, 0) := by
            unfold apV
            rw [if_pos Hle.out, if_pos (by simp [hns]), ← hns, ap_none]
          have hA1 := fun W => HAP.out (List.replicate k true) (some ⟨gy, 0, none⟩) k W
          have hA2 := fun W => HAP.out (List.replicate k false) (some ⟨gn, 0, none⟩) k W
          rw [hv1] at hA1
          rw [hv2] at hA2
          simp only [List.length_replicate] at hA1 hA2
          have HA1 := hid hA1; have HA2 := hid hA2
          have hab : 0 < k ↔ ¬ a = b := by
            rw [← strs_none a b, ← hns, List.length_pos_iff]
          have HAB := hid hab
          have HRy2 := hid (rb_row (l := List.replicate k true) HY.out (by simp) (fun i hi => by rw [if_pos (by simpa using hi)]; simp))
          have HRn2 := hid (rb_row (l := List.replicate k false) HN.out (by simp) (fun i hi => by simp))
          have HW0 := hid (fin2.out _ HW.out)
          clear hns hv1 hv2 hA1 hA2 hab HAP HX
          go_wp2_with fail
          rw [Hla.out, Hlb.out]
          refine (HA1.out _ ((Ra.out.below HW0.out).more HW0.out.size) ((Rbb.out.below HW0.out).more HW0.out.size) HRy2.out).mono ?_
          rintro e w5 ⟨v5, rfl, hown5, hb5⟩
          rw [← Hla.out, ← Hlb.out]
          obtain ⟨A5, c5, rfl⟩ := own_slice hown5
          rw [show (b.length : Nat) = lb from Hlb.out.symm]
          have HB5 := hid (fin.out _ _ HW0.out hb5)
          have HRn3 := hid ((HRn2.out.below hb5).more hb5.size)
          have Hown5 := hid hown5
          clear hb5 hown5
          go_wp2_with fail
          rw [Hla.out, Hlb.out]
          refine (HA2.out _ ((Ra.out.below HB5.out).more HB5.out.size) ((Rbb.out.below HB5.out).more HB5.out.size) HRn3.out).mono ?_
          rintro e w6 ⟨v6, rfl, hown6, hb6⟩
          rw [← Hla.out, ← Hlb.out]
          obtain ⟨A6, c6, rfl⟩ := own_slice hown6
          have HB6 := hid (fin.out _ _ HB5.out hb6)
          have hown5 := own_below Hown5.out hb6
          have hs1 := same_any b b A5 Ab c5 cb (by have := Hlb.out; omega) w6 w6.heap.size (own_rd hown5 rfl) ((Rbb.out.below HB6.out).more HB6.out.size)
          have hs2 := fun q => same_any a a A6 Aa c6 ca (by have := Hla.out; omega) (w6.drewN q) w6.heap.size (own_rd hown6 rfl) ((Ra.out.below HB6.out).more HB6.out.size)
          simp only [decide_true] at hs1 hs2
          have HS1 := hid hs1; have HS2 := hid hs2
          clear hb6 hown5 hown6 hs1 hs2 Hown5 HRn3 HRn2 HRy2
          rw [show (a.length : Nat) = la from Hla.out.symm]
          rw [show (b.length : Nat) = lb from Hlb.out.symm] at HS1
          rw [show (a.length : Nat) = la from Hla.out.symm] at HS2
          go_wp2_with fail
          refine HS1.out.mono ?_
          rintro e w7 ⟨rfl, n7, rfl⟩
          go_wp2_with fail
          refine (HS2.out _).mono ?_
          rintro e w8 ⟨rfl, n8, rfl⟩
          obtain ⟨w8, hw8⟩ : ∃ w8, w8 = (w6.drewN n7).drewN n8 := ⟨_, rfl⟩
          have hb8 : Below w.heap.size w w8 := by rw [hw8]; exact below_drewN (below_drewN HB6.out _) _
          first | rw [← hw8] | (rw [World.drewN_drewN] at hw8; rw [← hw8])
          have HB8 := hid hb8
          clear hb8 hw8 HS1 HS2 HB6
          go_wp2_with fail
          rw [Hla.out]
          refine (H2.out w8 ((Ra.out.below HB8.out).more HB8.out.size)).mono ?_
          rintro e w9 ⟨v9, es9, rfl, hS9, hst9, -, hb9⟩
          rw [← Hla.out]
          have hes9 : es9 = [] := by
            have h1 := (hst9 trivial).1
            rw [one_raw, ofCopy, strs_self] at h1
            simpa using h1
          subst hes9
          obtain ⟨A9, c9, rfl⟩ := own_slice hS9.own
          have HB9 := hid (fin.out _ _ HB8.out (((Below.refl w8.heap.size w8).alloc (Nat.le_refl _) _).trans (hb9.mono (by simp))))
          have hsab := HSAB.out w9 ((Ra.out.below HB9.out).more HB9.out.size) ((Rbb.out.below HB9.out).more HB9.out.size)
          obtain ⟨sb, hsb⟩ : ∃ sb, sb = decide (a = b) := ⟨_, rfl⟩
          rw [← hsb, ← Hla.out, ← Hlb.out] at hsab
          have Hs := hid hsab; have Hsb := hid hsb
          clear hsab hsb hS9 hst9 hb9
          cases sb with
          | true =>
            have hk0 : k = 0 := by
              have h1 : a = b := of_decide_eq_true Hsb.out.symm
              have := HAB.out
              have h2 : ¬ 0 < k := fun h => this.1 h h1
              omega
            subst hk0
            go_wp2_with fail
            refine Hs.out.mono ?_
            rintro e w10 ⟨rfl, n10, rfl⟩
            go_wp2_with fail
            refine (works_any _).mono ?_
            rintro e w11 ⟨rfl, hb11⟩
            have Hb11 := hid hb11; clear hb11
            go_wp2_with fail
            go_ret
            exact ⟨rfl, fin.out _ _ (below_drewN HB9.out _) Hb11.out⟩
          | false =>
            have hk0 : 0 < k := HAB.out.2 (of_decide_eq_false Hsb.out.symm)
            go_wp2_with fail
            refine Hs.out.mono ?_
            rintro e w10 ⟨rfl, n10, rfl⟩
            go_wp2_with fail
            refine (works_any _).mono ?_
            rintro e w11 ⟨rfl, hb11⟩
            have Hb11 := hid hb11; clear hb11
            go_wp2_with fail
            go_ret
            exact ⟨rfl, fin.out _ _ (below_drewN HB9.out _) Hb11.out⟩
    · try clear hmk
      have hby : (((w1.alloc (.cells (madeCells #[.bool false] n) 4)).alloc (.cells (madeCells #[.bool false] n) 4)).drew).rowIs (w1.heap.size + 1) 4 n (fun _ => .bool false) := HR1.out
      have hbn : (((w1.alloc (.cells (madeCells #[.bool false] n) 4)).alloc (.cells (madeCells #[.bool false] n) 4)).drew).rowIs (w1.heap.size) 4 n (fun _ => .bool false) := HR0.out
      have hb3 : Below w1.heap.size w1 (((w1.alloc (.cells (madeCells #[.bool false] n) 4)).alloc (.cells (madeCells #[.bool false] n) 4)).drew) := HB3.out
      obtain ⟨gy, hgy⟩ : ∃ gy, gy = w1.heap.size + 1 := ⟨_, rfl⟩
      obtain ⟨gn, hgn⟩ : ∃ gn, gn = w1.heap.size := ⟨_, rfl⟩
      obtain ⟨w3, hw3⟩ : ∃ w3, w3 = ((w1.alloc (.cells (madeCells #[.bool false] n) 4)).alloc (.cells (madeCells #[.bool false] n) 4)).drew := ⟨_, rfl⟩
      have hyn : gy ≠ gn := by omega
      have hy1 : w1.heap.size ≤ gy := by omega
      have hn1 : w1.heap.size ≤ gn := by omega
      rw [← hw3] at hby hbn hb3 ⊢
      rw [← hgy] at hby ⊢
      rw [← hgn] at hbn ⊢
      have HRy := hid hby; have HRn := hid hbn; have HBw := hid hb3
      clear hgy hgn hw3 hby hbn hb3
      go_wp2_with fail
      go_loopw [9] (fun i wr => ∃ k : Nat, k ≤ n ∧ i = .int .i64 k ∧ Hid (wr.rowIs gy 4 n (fun x => if x < k then .bool true else .bool false)) ∧ Hid (wr.rowIs gn 4 n (fun _ => .bool false)) ∧ Hid (Below w1.heap.size w1 wr)) (fun i _ => n - (intOf i).toNat)
      case atStart => exact ⟨0, by omega, rfl, HRy.out.congr (fun x hx => by rw [if_neg (by omega)]), HRn.out, HBw.out⟩
      case round =>
        clear HRy HRn HBw
        obtain ⟨k, hk, rfl, HY, HN, HW⟩ := hrel
        have fin2 : Hid (∀ W, Below w1.heap.size w1 W → Below w.heap.size w W) := fun W h => HB1.out.trans (h.mono HB1.out.size)
        by_cases hkn : k < n
        · have hk1 : k < es.length := by rw [← Hn.out]; exact hkn
          have hk2 : k < (strs a b).length := by rw [← Hlen.out]; exact hk1
          obtain ⟨g, cg, hv, hg0, hg, q1, q2, q3⟩ := HS.out.at hk1
          injection hv with hA hle hc
          subst hA; subst hc
          clear hle hg0
          obtain ⟨A3, c3, hv3⟩ := own_slice (HS.out.cl _ (List.getElem_mem hk1)).1
          have hd := esx Hes.out hk1 hk2
          have hx := xb _ (List.getElem_mem hk2)
          have hev : extV a b (((strs a b)[k].1 : Nat) : Int) = (((strs a b)[k].2.1 : Int), 0) := by
            unfold extV
            rw [if_pos Hle.out]
            exact extR_hit hk2 (fun j hj hjk => by have := List.pairwise_iff_getElem.1 (strs_chain a b) j k hj hk2 hjk; omega) rfl
          obtain ⟨d1, d2, d3⟩ := hd
          rw [hv3, d3] at q3
          rw [d1] at q1
          rw [d2] at q2
          have hprev : ∀ kp, k = kp + 1 → ∃ xp : Nat, w1.cell? ⟨g, kp * 3, none⟩ = some (.int .i64 xp) ∧ xp < (strs a b)[k].1 := fun kp hkp => by
            have hp1 : kp < es.length := by omega
            have hp2 : kp < (strs a b).length := by omega
            obtain ⟨g', cg', hv', _, _, r1, _, _⟩ := HS.out.at hp1
            injection hv' with hA' _ _
            injection hA' with hA'
            injection hA' with hA' _ _
            subst hA'
            rw [(esx Hes.out hp1 hp2).1] at r1
            have := List.pairwise_iff_getElem.1 (strs_chain a b) kp k hp2 hk2 (by omega)
            exact ⟨_, r1, by omega⟩
          generalize (strs a b)[k] = X at *
          obtain ⟨x1, x2, sg⟩ := X
          simp only at q1 q2 q3 hx hev hprev
          obtain ⟨ls, hls⟩ : ∃ ls, ls = sg.length := ⟨_, rfl⟩
          rw [← hls] at q3 hx
          have HEV := hid hev; have Hprev := hid hprev
          clear hls hev hprev d1 d2 d3 hv3 hk1 hk2
          have hgy : gy ≠ g := by omega
          have hgr : g < wr.heap.size := Nat.lt_of_lt_of_le hg HW.out.size
          have s1 : wr.cell? ⟨gy, k, none⟩ = some (.bool false) := by rw [HY.out.cell (by omega), if_neg (by omega)]
          have s2 : wr.frozen? ⟨gy, k, none⟩ = false := HY.out.frozen k
          have s3 : gy < wr.heap.size := HY.out.lt
          have hY2 : (wr.setCell ⟨gy, k, none⟩ (.bool true)).rowIs gy 4 n (fun x => if x < k + 1 then .bool true else .bool false) := (HY.out.set k _).congr (fun x hx => by
            by_cases e : x = k
            · subst e; rw [if_pos (by omega)]; simp
            · rw [if_neg e]
              by_cases h1 : x < k
              · rw [if_pos h1, if_pos (by omega)]
              · rw [if_neg h1, if_neg (by omega)])
          have hN2 : (wr.setCell ⟨gy, k, none⟩ (.bool true)).rowIs gn 4 n (fun _ => .bool false) := HN.out.setOther (by simp; omega) _
          have hW2 : Below w1.heap.size w1 (wr.setCell ⟨gy, k, none⟩ (.bool true)) := HW.out.setCell hy1 _
          have e1 := cell_set_far (g := gy) (k := k) (v := .bool true) ((HW.out.cell (p := ⟨g, k * 3, none⟩) hg).trans q1) (.inl hgy)
          have e2 := cell_set_far (g := gy) (k := k) (v := .bool true) ((HW.out.cell (p := ⟨g, k * 3 + 1, none⟩) hg).trans q2) (.inl hgy)
          have e3 := cell_set_far (g := gy) (k := k) (v := .bool true) ((HW.out.cell (p := ⟨g, k * 3 + 2, none⟩) hg).trans q3) (.inl hgy)
          have HY2' := hid hY2; have HN2' := hid hN2; have HW2' := hid hW2
          clear hY2 hN2 hW2 HY HN
          by_cases hk0 : k = 0
          · subst hk0
            go_wp2_with fail
            go_quiet (fail)
            have HWd := hid (below_drewN HW2'.out nq)
            go_wp2_with fail
            rw [Hla.out, Hlb.out]
            refine (HX.out _ _ ((Ra.out.below (fin2.out _ HWd.out)).more (fin2.out _ HWd.out).size) ((Rbb.out.below (fin2.out _ HWd.out)).more (fin2.out _ HWd.out).size)).mono ?_
            rintro e w5 ⟨rfl, hb5⟩
            rw [← Hla.out, ← Hlb.out, HEV.out]
            have HB5 := hid (HWd.out.trans (hb5.mono HWd.out.size))
            have HY5 := hid (rowIs_below (row_drewN HY2'.out nq) hb5)
            have HN5 := hid (rowIs_below (row_drewN HN2'.out nq) hb5)
            have m1 := (HB5.out.cell (p := ⟨g, 0 * 3, none⟩) hg).trans q1
            have m3 := (HB5.out.cell (p := ⟨g, 0 * 3 + 2, none⟩) hg).trans q3
            obtain ⟨hx1, hx2, hx3, hx4⟩ := hx
            have n1 : ¬ la < x1 + x2 := by omega
            have n2 : ¬ ((la : Int) < (x1 : Int) + (x2 : Int)) := by omega
            clear hb5 e1 e2 e3 s1 s2 q1 q2 q3
            by_cases hx0 : x2 = 0
            · have hls0 : ¬ ls = 0 := by omega
              have hls1 : ((ls : Int) == 0) = false := by simp; omega
              have n3 : ¬ la < x1 := by omega
              have n4 : ¬ ((la : Int) < (x1 : Int)) := by omega
              subst hx0
              clear n1 n2
              go_wp2_with fail
              go_roundw
              case rel => exact ⟨0 + 1, by omega, by go_num, HY5.out, HN5.out, HB5.out⟩
              case measure => simp [intOf]; omega
            · go_wp2_with fail
              go_roundw
              case rel => exact ⟨0 + 1, by omega, by go_num, HY5.out, HN5.out, HB5.out⟩
              case measure => simp [intOf]; omega
          · obtain ⟨kp, rfl⟩ : ∃ kp, k = kp + 1 := ⟨k - 1, by omega⟩
            obtain ⟨xp, r1, hxp⟩ := Hprev.out kp rfl
            have f1 := cell_set_far (g := gy) (k := kp + 1) (v := .bool true) ((HW.out.cell (p := ⟨g, kp * 3, none⟩) hg).trans r1) (.inl hgy)
            go_wp2_with fail
            go_quiet (fail)
            have HWd := hid (below_drewN HW2'.out nq)
            go_wp2_with fail
            rw [Hla.out, Hlb.out]
            refine (HX.out _ _ ((Ra.out.below (fin2.out _ HWd.out)).more (fin2.out _ HWd.out).size) ((Rbb.out.below (fin2.out _ HWd.out)).more (fin2.out _ HWd.out).size)).mono ?_
            rintro e w5 ⟨rfl, hb5⟩
            rw [← Hla.out, ← Hlb.out, HEV.out]
            have HB5 := hid (HWd.out.trans (hb5.mono HWd.out.size))
            have HY5 := hid (rowIs_below (row_drewN HY2'.out nq) hb5)
            have HN5 := hid (rowIs_below (row_drewN HN2'.out nq) hb5)
            have m1 := (HB5.out.cell (p := ⟨g, (kp + 1) * 3, none⟩) hg).trans q1
            have m3 := (HB5.out.cell (p := ⟨g, (kp + 1) * 3 + 2, none⟩) hg).trans q3
            obtain ⟨hx1, hx2, hx3, hx4⟩ := hx
            have n1 : ¬ la < x1 + x2 := by omega
            have n2 : ¬ ((la : Int) < (x1 : Int) + (x2 : Int)) := by omega
            clear hb5 e1 e2 e3 s1 s2 q1 q2 q3 f1 r1
            by_cases hx0 : x2 = 0
            · have hls0 : ¬ ls = 0 := by omega
              have hls1 : ((ls : Int) == 0) = false := by simp; omega
              have n3 : ¬ la < x1 := by omega
              have n4 : ¬ ((la : Int) < (x1 : Int)) := by omega
              subst hx0
              clear n1 n2
              go_wp2_with fail
              go_roundw
              case rel => exact ⟨kp + 1 + 1, by omega, by go_num, HY5.out, HN5.out, HB5.out⟩
              case measure => simp [intOf]; omega
            · go_wp2_with fail
              go_roundw
              case rel => exact ⟨kp + 1 + 1, by omega, by go_num, HY5.out, HN5.out, HB5.out⟩
              case measure => simp [intOf]; omega
        · obtain rfl : k = n := by omega
          have hns : (strs a b).length = k := by rw [← Hlen.out, Hn.out]
          have hv1 : apV a b (List.replicate k true) = (b, 0) := by
            unfold apV
            rw [if_pos Hle.out, if_pos (by simp [hns]), ← hns, ap_all]
          have hv2 : apV a b (List.replicate k false) = (a, 0) := by
            unfold apV
            rw [if_pos Hle.out, if_pos (by simp [hns]), ← hns, ap_none]
          have hA1 := fun W => HAP.out (List.replicate k true) (some ⟨gy, 0, none⟩) k W
          have hA2 := fun W => HAP.out (List.replicate k false) (some ⟨gn, 0, none⟩) k W
          rw [hv1] at hA1
          rw [hv2] at hA2
          simp only [List.length_replicate] at hA1 hA2
          have HA1 := hid hA1; have HA2 := hid hA2
          have hab : 0 < k ↔ ¬ a = b := by
            rw [← strs_none a b, ← hns, List.length_pos_iff]
          have HAB := hid hab
          have HRy2 := hid (rb_row (l := List.replicate k true) HY.out (by simp) (fun i hi => by rw [if_pos (by simpa using hi)]; simp))
          have HRn2 := hid (rb_row (l := List.replicate k false) HN.out (by simp) (fun i hi => by simp))
          have HW0 := hid (fin2.out _ HW.out)
          clear hns hv1 hv2 hA1 hA2 hab HAP HX
          go_wp2_with fail
          rw [Hla.out, Hlb.out]
          refine (HA1.out _ ((Ra.out.below HW0.out).more HW0.out.size) ((Rbb.out.below HW0.out).more HW0.out.size) HRy2.out).mono ?_
          rintro e w5 ⟨v5, rfl, hown5, hb5⟩
          rw [← Hla.out, ← Hlb.out]
          obtain ⟨A5, c5, rfl⟩ := own_slice hown5
          rw [show (b.length : Nat) = lb from Hlb.out.symm]
          have HB5 := hid (fin.out _ _ HW0.out hb5)
          have HRn3 := hid ((HRn2.out.below hb5).more hb5.size)
          have Hown5 := hid hown5
          clear hb5 hown5
          go_wp2_with fail
          rw [Hla.out, Hlb.out]
          refine (HA2.out _ ((Ra.out.below HB5.out).more HB5.out.size) ((Rbb.out.below HB5.out).more HB5.out.size) HRn3.out).mono ?_
          rintro e w6 ⟨v6, rfl, hown6, hb6⟩
          rw [← Hla.out, ← Hlb.out]
          obtain ⟨A6, c6, rfl⟩ := own_slice hown6
          have HB6 := hid (fin.out _ _ HB5.out hb6)
          have hown5 := own_below Hown5.out hb6
          have hs1 := same_any b b A5 Ab c5 cb (by have := Hlb.out; omega) w6 w6.heap.size (own_rd hown5 rfl) ((Rbb.out.below HB6.out).more HB6.out.size)
          have hs2 := fun q => same_any a a A6 Aa c6 ca (by have := Hla.out; omega) (w6.drewN q) w6.heap.size (own_rd hown6 rfl) ((Ra.out.below HB6.out).more HB6.out.size)
          simp only [decide_true] at hs1 hs2
          have HS1 := hid hs1; have HS2 := hid hs2
          clear hb6 hown5 hown6 hs1 hs2 Hown5 HRn3 HRn2 HRy2
          rw [show (a.length : Nat) = la from Hla.out.symm]
          rw [show (b.length : Nat) = lb from Hlb.out.symm] at HS1
          rw [show (a.length : Nat) = la from Hla.out.symm] at HS2
          go_wp2_with fail
          refine HS1.out.mono ?_
          rintro e w7 ⟨rfl, n7, rfl⟩
          go_wp2_with fail
          refine (HS2.out _).mono ?_
          rintro e w8 ⟨rfl, n8, rfl⟩
          obtain ⟨w8, hw8⟩ : ∃ w8, w8 = (w6.drewN n7).drewN n8 := ⟨_, rfl⟩
          have hb8 : Below w.heap.size w w8 := by rw [hw8]; exact below_drewN (below_drewN HB6.out _) _
          first | rw [← hw8] | (rw [World.drewN_drewN] at hw8; rw [← hw8])
          have HB8 := hid hb8
          clear hb8 hw8 HS1 HS2 HB6
          go_wp2_with fail
          rw [Hla.out]
          refine (H2.out w8 ((Ra.out.below HB8.out).more HB8.out.size)).mono ?_
          rintro e w9 ⟨v9, es9, rfl, hS9, hst9, -, hb9⟩
          rw [← Hla.out]
          have hes9 : es9 = [] := by
            have h1 := (hst9 trivial).1
            rw [one_raw, ofCopy, strs_self] at h1
            simpa using h1
          subst hes9
          obtain ⟨A9, c9, rfl⟩ := own_slice hS9.own
          have HB9 := hid (fin.out _ _ HB8.out (((Below.refl w8.heap.size w8).alloc (Nat.le_refl _) _).trans (hb9.mono (by simp))))
          have hsab := HSAB.out w9 ((Ra.out.below HB9.out).more HB9.out.size) ((Rbb.out.below HB9.out).more HB9.out.size)
          obtain ⟨sb, hsb⟩ : ∃ sb, sb = decide (a = b) := ⟨_, rfl⟩
          rw [← hsb, ← Hla.out, ← Hlb.out] at hsab
          have Hs := hid hsab; have Hsb := hid hsb
          clear hsab hsb hS9 hst9 hb9
          cases sb with
          | true =>
            have hk0 : k = 0 := by
              have h1 : a = b := of_decide_eq_true Hsb.out.symm
              have := HAB.out
              have h2 : ¬ 0 < k := fun h => this.1 h h1
              omega
            subst hk0
            go_wp2_with fail
            refine Hs.out.mono ?_
            rintro e w10 ⟨rfl, n10, rfl⟩
            go_wp2_with fail
            refine (works_any _).mono ?_
            rintro e w11 ⟨rfl, hb11⟩
            have Hb11 := hid hb11; clear hb11
            go_wp2_with fail
            go_ret
            exact ⟨rfl, fin.out _ _ (below_drewN HB9.out _) Hb11.out⟩
          | false =>
            have hk0 : 0 < k := HAB.out.2 (of_decide_eq_false Hsb.out.symm)
            go_wp2_with fail
            refine Hs.out.mono ?_
            rintro e w10 ⟨rfl, n10, rfl⟩
            go_wp2_with fail
            refine (works_any _).mono ?_
            rintro e w11 ⟨rfl, hb11⟩
            have Hb11 := hid hb11; clear hb11
            go_wp2_with fail
            go_ret
            exact ⟨rfl, fin.out _ _ (below_drewN HB9.out _) Hb11.out⟩
  · obtain ⟨er, her⟩ : ∃ er, er = vErr a [b] := ⟨_, rfl⟩
    rw [← her] at h1 h0
    have g1 : (er == 0) = false := by simpa using h0
    have g2 : (er != 0) = true := by simpa using h0
    have H1 := hid h1
    clear h1 her var hnil hcap ra rb
    go_enter Try.func9, Try.ntmps9
    go_wp2_with fail
    refine H1.out.mono ?_
    rintro e w1 ⟨v, es, rfl, hS, -, hno, hb1⟩
    obtain ⟨rfl, -⟩ := hno h0
    have HB1 := hid (fin.out w _ (Below.refl _ _) ((((Below.refl w.heap.size w).alloc (Nat.le_refl _) _)).trans (hb1.mono (by simp))))
    clear hb1 hno hS
    go_wp2_with fail
    refine (works_any _).mono ?_
    rintro e w2 ⟨rfl, hb2⟩
    have Hb2 := hid hb2; clear hb2
    go_wp2_with fail
    go_ret
    exact ⟨rfl, fin.out _ _ HB1.out Hb2.out⟩
end Go.Proofs.Ytoljnbbhoeloeaa
