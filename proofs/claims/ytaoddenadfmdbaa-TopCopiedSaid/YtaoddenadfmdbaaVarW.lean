/- WALK: copies.Variants. -/
import Derived.Test.YtaoddenadfmdbaaItems2
import Derived.Test.YtaoddenadfmdbaaSortW
namespace Go.Proofs.Ytaoddenadfmdbaa
open Go.RowKit
theorem Try.infoVariant : (Try.prog.info? 51).map (fun i => (i.zero, i.size, i.bytes)) = some (some (.agg #[.int .i64 0, .int .i64 0, .slice none 0 0]), 3, 40) := by kernel_rfl
/-- A variant: place, copy, signs. -/
abbrev Va := Int × Int × List Int
def dec (t : En) : Va := (t.1, t.2.1, t.2.2.2)
/-- The variants of the copy c. -/
def ofCopy (a : List Int) (c : Nat) (b : List Int) : List Va := (strs a b).map fun x => ((x.1 : Int), (c : Int), x.2.2)
/-- The variants of the first k copies, copy by copy. -/
def raw (a : List Int) (sg : List (List Int)) : Nat → List Va
  | 0 => []
  | k + 1 => raw a sg k ++ ofCopy a k (sg.getD k [])
def vErr (a : List Int) (sg : List (List Int)) : Int := if lineErr a ≠ 0 then lineErr a else if 8 < sg.length then 2 else linesErr sg
def StabL (L L' : List Va) : Prop := L'.length = L.length ∧ (∀ x : Int, L'.filter (fun t => decide (t.1 = x)) = L.filter (fun t => decide (t.1 = x))) ∧ L'.Pairwise (fun x y => x.1 ≤ y.1)
theorem StabE.dec {es es' : List En} (h : StabE es es') : StabL (es.map dec) (es'.map dec) := by
  refine ⟨by simpa using h.1, fun x => ?_, by rw [List.pairwise_map]; exact h.2.2⟩
  rw [List.filter_map, List.filter_map]
  exact congrArg (List.map Go.Proofs.Ytaoddenadfmdbaa.dec) (h.2.1 x)
theorem lineErr_le {l : List Int} (h : lineErr l = 0) : l.length ≤ 60 := by
  unfold lineErr at h
  split at h
  · cases h
  · omega
theorem linesErr_all {ls : List (List Int)} (h : linesErr ls = 0) : ∀ l ∈ ls, lineErr l = 0 := by
  induction ls with
  | nil => intro l hl; cases hl
  | cons x r ih =>
    intro l hl
    rw [linesErr] at h
    split at h
    · rename_i hx
      rcases List.mem_cons.1 hl with rfl | hl
      · exact hx
      · exact ih h l hl
    · rename_i hx; exact absurd h hx
theorem strs_bd (a b : List Int) : (strs a b).length ≤ a.length + b.length ∧ ∀ x ∈ strs a b, x.1 ≤ a.length + b.length := by
  have h := stAt_bd a b _ (Nat.le_refl _)
  have h2 := pairs_len a b
  rw [strs_eq]
  exact ⟨Nat.le_trans h.out h2, fun x hx => by have := h.item x hx; omega⟩
theorem raw_len (a : List Int) (sg : List (List Int)) (ha : a.length ≤ 60) (hs : ∀ l ∈ sg, l.length ≤ 60) : ∀ k, k ≤ sg.length → (raw a sg k).length ≤ 120 * k ∧ ∀ t ∈ raw a sg k, 0 ≤ t.1 ∧ t.1 ≤ 1000
  | 0, _ => ⟨by simp [raw], fun t ht => by cases ht⟩
  | k + 1, hk => by
    obtain ⟨h1, h2⟩ := raw_len a sg ha hs k (by omega)
    have e : sg.getD k [] = sg[k] := by simp [List.getD, List.getElem?_eq_getElem (show k < sg.length by omega)]
    have h3 := hs _ (List.getElem_mem (show k < sg.length by omega))
    obtain ⟨h4, h5⟩ := strs_bd a sg[k]
    refine ⟨by simp only [raw, ofCopy, e, List.length_append, List.length_map]; omega, fun t ht => ?_⟩
    simp only [raw, List.mem_append] at ht
    rcases ht with ht | ht
    · exact h2 t ht
    · rw [e] at ht
      obtain ⟨x, hx, rfl⟩ := List.mem_map.1 ht
      have := h5 x hx
      simp; omega
set_option maxRecDepth 100000 in
set_option maxHeartbeats 1000000 in
theorem variants_any (a : List Int) (ls : List Ln) (Aa Ao : Option Addr) (ca co : Nat) (hls : ls.length ≤ 1000000000000) (hsm : (raw a (sig ls) ls.length).length < 20) (w : World) (ra : Rd w w.heap.size Aa a) (ro : Lns w w.heap.size Ao ls) :
    Calls Try.prog 9 #[.slice Aa a.length ca, .slice Ao ls.length co] w fun e w' => ∃ v es, e = .returned (.tuple #[v, .int .i64 (vErr a (sig ls))]) ∧ SAll w' w.heap.size 51 v es ∧ (vErr a (sig ls) = 0 → StabL (raw a (sig ls) ls.length) (es.map dec)) ∧ (vErr a (sig ls) ≠ 0 → v = .slice none 0 0 ∧ es = []) ∧ Below w.heap.size w w' := by
  have hc1 := check_any [(Aa, ca, a)] (some ⟨w.heap.size, 0, none⟩) 1 (by simp) _ _ (Lns.one 26 ra)
  obtain ⟨x, hx⟩ : ∃ x, x = lineErr a := ⟨_, rfl⟩
  rw [show linesErr (sig [(Aa, ca, a)]) = x from by rw [hx]; simp [sig, linesErr]; exact fun h => h.symm] at hc1
  simp only [List.length_cons, List.length_nil, Nat.zero_add] at hc1
  have hcO := fun w' B r => check_any ls Ao co hls w' B r
  obtain ⟨y, hy⟩ : ∃ y, y = linesErr (sig ls) := ⟨_, rfl⟩
  rw [← hy] at hcO
  have hve : vErr a (sig ls) = if x ≠ 0 then x else if 8 < ls.length then 2 else y := by rw [vErr, ← hx, ← hy]; simp [sig]
  have ha60 : x = 0 → a.length ≤ 60 := fun h => lineErr_le (by rw [← hx]; exact h)
  have hl60 : y = 0 → ∀ l ∈ sig ls, l.length ≤ 60 := fun h l hl => lineErr_le (linesErr_all (by rw [← hy]; exact h) l hl)
  have Hc1 := hid hc1; have HcO := hid hcO; have Hve := hid hve; have Ra := hid ra; have Ro := hid ro; have Hsm := hid hsm; have Ha60 := hid ha60; have Hl60 := hid hl60
  clear hc1 hcO hve ra ro hsm ha60 hl60 hx hy
  obtain ⟨la, hla⟩ : ∃ la, la = a.length := ⟨_, rfl⟩
  obtain ⟨n, hn⟩ : ∃ n, n = ls.length := ⟨_, rfl⟩
  rw [← hla, ← hn]
  rw [← hn] at hls
  have Hla := hid hla; have Hn := hid hn; clear hla hn
  by_cases hx0 : x = 0
  · subst hx0
    by_cases h8 : 8 < n
    · have hd : decide ((8 : Int) < (n : Int)) = true := by simp; omega
      have hve : vErr a (sig ls) = 2 := by rw [Hve.out, if_neg (by simp), if_pos (by rw [← Hn.out]; exact h8)]
      rw [hve]
      clear hve h8
      go_enter Try.func9, Try.ntmps9
      go_wp2_with fail
      rw [Hla.out]
      refine Hc1.out.mono ?_
      rintro e w1 ⟨rfl, q, hw1⟩
      rw [← Hla.out]
      have hb1 : Below w.heap.size w w1 := by rw [hw1]; exact below_drewN ((Below.refl w.heap.size w).alloc (Nat.le_refl _) _) q
      have Hb1 := hid hb1
      clear hw1 hb1
      go_wp2_with fail
      go_ret2
      exact ⟨_, [], rfl, SAll.nil _ _ _ Hb1.out.size, fun h => (by cases h), fun _ => ⟨rfl, rfl⟩, Hb1.out⟩
    · have hd : decide ((8 : Int) < (n : Int)) = false := by simp; omega
      have hve : vErr a (sig ls) = y := by rw [Hve.out, if_neg (by simp), if_neg (by rw [← Hn.out]; exact h8)]
      rw [hve]
      have hn8 : n ≤ 8 := by omega
      clear hve h8 hls
      by_cases hy0 : y = 0
      · subst hy0
        have hlen := raw_len a (sig ls) (Ha60.out (by simp)) (Hl60.out (by simp)) n (by rw [Hn.out]; simp [sig])
        have Hlen := hid hlen; clear hlen
        have hlen2 : (raw a (sig ls) n).length < 20 := by rw [Hn.out]; exact Hsm.out
        have Hlen2 := hid hlen2; clear hlen2 Hsm
        go_enter Try.func9, Try.ntmps9
        go_wp2_with fail
        rw [Hla.out]
        refine Hc1.out.mono ?_
        rintro e w1 ⟨rfl, q, hw1⟩
        rw [← Hla.out]
        have hb1 : Below w.heap.size w w1 := by rw [hw1]; exact below_drewN ((Below.refl w.heap.size w).alloc (Nat.le_refl _) _) q
        have Hb1 := hid hb1
        clear hw1 hb1
        go_wp2_with fail
        rw [Hn.out]
        refine (HcO.out _ _ (Ro.out.below Hb1.out)).mono ?_
        rintro e w2 ⟨rfl, q2, hw2⟩
        rw [← Hn.out]
        have hb2 : Below w.heap.size w w2 := by rw [hw2]; exact below_drewN Hb1.out q2
        have Hb2 := hid hb2
        clear hw2 hb2 Hb1
        clear hd
        go_wp2_with fail
        go_loopw [4, 28] (fun v i wr => ∃ (k : Nat) (es : List En), k ≤ n ∧ i = .int .i64 k ∧ SAll wr w.heap.size 51 v es ∧ Hid (es.map dec = raw a (sig ls) k) ∧ Below w.heap.size w wr) (fun _ i _ => n - (intOf i).toNat)
        case atStart => exact ⟨0, [], by omega, rfl, SAll.nil _ _ _ Hb2.out.size, rfl, Hb2.out⟩
        case round =>
          obtain ⟨k, es, hk, rfl, hS, hE, hbr⟩ := hrel
          by_cases hkn : k < n
          · have hk2 : k < ls.length := by rw [← Hn.out]; exact hkn
            obtain ⟨b, o, rfl, hbw, hc⟩ := Ro.out.at (by omega)
            have p5 := (hbr.cell (p := ⟨b, o + k, none⟩) hbw).trans (hc k hk2)
            have hr : Rd w w.heap.size ls[k].1 ls[k].2.2 := Ro.out.ln _ (List.getElem_mem hk2)
            have hl60 : ls[k].2.2.length ≤ 60 := Hl60.out (by simp) _ (by simp only [sig, List.mem_map]; exact ⟨_, List.getElem_mem hk2, rfl⟩)
            have hsk : raw a (sig ls) (k + 1) = raw a (sig ls) k ++ ofCopy a k ls[k].2.2 := by rw [raw]; congr 2; simp [sig, List.getD, hk2]
            have hel : es.length ≤ 120 * 8 := by
              have h1 := (raw_len a (sig ls) (Ha60.out (by simp)) (Hl60.out (by simp)) k (by simp [sig]; omega)).1
              have h2 := congrArg List.length hE.out
              simp only [List.length_map] at h2
              omega
            clear hc
            obtain ⟨⟨A', c', l⟩, ht⟩ : ∃ t, t = ls[k] := ⟨_, rfl⟩
            rw [← ht] at p5 hr hl60 hsk
            simp only at p5 hr hl60 hsk
            have Hr := hid hr; have Hl := hid hl60; have Hsk := hid hsk; have HS := hid hS; have Hbr := hid hbr
            clear hr hl60 hsk ht hk2 hS hbr
            obtain ⟨ll, hll⟩ : ∃ ll, ll = l.length := ⟨_, rfl⟩
            rw [← hll] at p5
            have Hll := hid hll; clear hll
            go_wp2_with fail
            rw [Hla.out, Hll.out]
            refine (stretches_any a l Aa A' ca c' (Ha60.out (by simp)) Hl.out wr ((Ra.out.below Hbr.out).more Hbr.out.size) ((Hr.out.below Hbr.out).more Hbr.out.size)).mono ?_
            rintro e w3 ⟨sv, es3, rfl, hS3, henc, hb3⟩
            rw [← Hla.out]
            have hS2 := HS.out.below hb3
            have hbw3 := Hbr.out.trans (hb3.mono Hbr.out.size)
            have hT := hS3.base_ Hbr.out.size
            have hm : es3.length ≤ 120 := by have h1 := henc.len; have h2 := (strs_bd a l).1; have h3 := Ha60.out (by simp); have h4 := Hl.out; omega
            have HS2 := hid hS2; have Hbw3 := hid hbw3; have HT := hid hT; have Henc := hid henc
            clear hS2 hbw3 hT henc hS3 hb3 HS Hbr p5
            obtain ⟨A3, c3, rfl⟩ := own_slice HT.out.own
            obtain ⟨m, hmm⟩ : ∃ m, m = es3.length := ⟨_, rfl⟩
            rw [← hmm] at hm HT
            rw [← hmm]
            have Hmm := hid hmm; clear hmm
            go_wp2_with fail
            go_loopw [4, 37] (fun v j wr => ∃ (t : Nat) (es2 : List En), t ≤ m ∧ j = .int .i64 t ∧ SAll wr w.heap.size 51 v es2 ∧ Hid (es2.map dec = raw a (sig ls) k ++ (ofCopy a k l).take t) ∧ SAll wr w.heap.size 66 (.slice A3 m c3) es3 ∧ Below w.heap.size w wr) (fun _ j _ => m - (intOf j).toNat)
            case atStart => exact ⟨0, es, by omega, rfl, HS2.out, by show _ = _; rw [List.take_zero, List.append_nil]; exact hE.out, HT.out, Hbw3.out⟩
            case round =>
              obtain ⟨t, es2, htm, rfl, hS, hE2, hT, hbr⟩ := hrel
              by_cases htn : t < m
              · have ht3 : t < es3.length := by rw [← Hmm.out]; exact htn
                have ht4 : t < (strs a l).length := by rw [← Henc.out.len]; exact ht3
                obtain ⟨g, cg, hv, hg1, hg2, d1, d2, d3⟩ := hT.at ht3
                injection hv with hA hmm2 hcc
                subst hA; subst hcc; clear hmm2
                have hcl := (hT.cl _ (List.getElem_mem ht3)).1
                obtain ⟨A4, c4, hv4⟩ := own_slice hcl
                have hel2 : es2.length ≤ 120 * 9 := by
                  have h2 := congrArg List.length hE2.out
                  have h3 := congrArg List.length hE.out
                  simp only [List.length_map, List.length_append, List.length_take] at h2 h3
                  omega
                have hq : (ofCopy a k l)[t]? = some (es3[t].1, (k : Int), es3[t].2.2.2) := by
                  have h1 := congrArg (fun x => x[t]?) Henc.out
                  simp only [List.getElem?_map, List.getElem?_eq_getElem ht3, List.getElem?_eq_getElem ht4, Option.map_some, Option.some.injEq, Prod.mk.injEq] at h1
                  simp only [ofCopy, List.getElem?_map, List.getElem?_eq_getElem ht4, Option.map_some]
                  rw [h1.1, h1.2.2]
                obtain ⟨⟨f, t2o, u, sg⟩, hx⟩ : ∃ x, x = es3[t] := ⟨_, rfl⟩
                rw [← hx] at d1 d2 d3 hcl hv4 hq
                simp only at d1 d2 d3 hcl hv4 hq
                subst hv4
                obtain ⟨ls4, hls4⟩ : ∃ n4, n4 = sg.length := ⟨_, rfl⟩
                rw [← hls4] at d3 hcl
                have hE3 : Hid ((es2 ++ [(f, (k : Int), Value.slice A4 ls4 c4, sg)]).map dec = raw a (sig ls) k ++ (ofCopy a k l).take (t + 1)) := by
                  show _ = _
                  rw [List.map_append, hE2.out, List.take_add_one, hq, List.append_assoc]
                  rfl
                have HS := hid hS; have HT2 := hid hT; have Hcl := hid hcl; have Hbr := hid hbr; have Hls4 := hid hls4
                clear hS hT hcl hbr hq hx ht3 ht4 hls4 hE2
                go_wp2_with (at_builtin; go_must (refine app_elem rfl (.tmp 41) (.tmp 48) Try.underlying40 Try.infoVariant rfl (by decide) (by decide) rfl w.heap.size _ es2.length _ rfl ((HS.out.alloc _).alloc _).own ⟨wr.heap.size + 1, 0, none⟩ [.int .i64 f, .int .i64 k, .slice A4 ls4 c4] rfl rfl (cell_news_at _ _ _ (by simp)) (by simp [Value.oneCell']) (by omega) (by have := Hbr.out.size; simp; omega) ?_); intro v' w4 hown hgrow; go_must (have hP := ((HS.out.alloc _).alloc _).pushE (t := (f, (k : Int), Value.slice A4 ls4 c4, sg)) (by decide) (by simp only; rw [← Hls4.out]; exact (Hcl.out.alloc _).alloc _) hown hgrow); go_must (have hQ := ((HT2.out.alloc _).alloc _).keptBy (((HS.out.alloc _).alloc _).own) (by decide) (by decide) hgrow); go_must (have hbw := below_app ((Hbr.out.alloc Hbr.out.size _).alloc (by have := Hbr.out.size; simp; omega) _) (((HS.out.alloc _).alloc _).own) hgrow (Nat.le_refl _) (by have := Hbr.out.size; simp; omega)); have HP := hid hP; have HQ := hid hQ; have Hbw := hid hbw; clear hP hQ hbw hown hgrow)
                go_roundw
                case rel => exact ⟨t + 1, _, by omega, by go_num, HP.out, hE3, HQ.out, Hbw.out⟩
                case measure => simp [intOf]; omega
              · obtain rfl : t = m := by omega
                have hE4 : Hid (es2.map dec = raw a (sig ls) (k + 1)) := by
                  show _ = _
                  rw [Hsk.out, hE2.out, List.take_of_length_le]
                  rw [ofCopy, List.length_map, ← Henc.out.len, Hmm.out]
                  exact Nat.le_refl _
                have HS := hid hS; have Hbr := hid hbr
                clear hS hT hbr hE2
                go_wp2_with fail
                go_roundw
                case rel => exact ⟨k + 1, es2, by omega, by go_num, HS.out, hE4, Hbr.out⟩
                case measure => simp [intOf]; omega
          · obtain rfl : k = n := by omega
            have hks : ∀ t ∈ es, 0 ≤ t.1 ∧ t.1 ≤ 1000 := fun t ht => Hlen.out.2 (dec t) (by rw [← hE.out]; exact List.mem_map_of_mem ht)
            have hl20 : es.length < 20 := by have := Hlen2.out; rw [← hE.out] at this; simpa using this
            have hcon := sort_any w.heap.size _ es wr hS hks hl20
            have Hcon := hid hcon
            have Hbr := hid hbr
            clear hcon hks hl20 hS hbr
            go_wp2_with (go_at_call 18; refine Hcon.out.mono ?_; rintro e w5 ⟨rfl, es', hS5, hst, hb5⟩; have HS5 := hid hS5; have Hst := hid hst; have Hb5 := hid hb5; clear hS5 hst hb5)
            go_ret2
            exact ⟨_, es', rfl, HS5.out, fun _ => by rw [← hE.out]; exact Hst.out.dec, fun h => absurd rfl h, Hbr.out.trans Hb5.out⟩
      · have hd2 : (y == 0) = false := by simpa using hy0
        go_enter Try.func9, Try.ntmps9
        go_wp2_with fail
        rw [Hla.out]
        refine Hc1.out.mono ?_
        rintro e w1 ⟨rfl, q, hw1⟩
        rw [← Hla.out]
        have hb1 : Below w.heap.size w w1 := by rw [hw1]; exact below_drewN ((Below.refl w.heap.size w).alloc (Nat.le_refl _) _) q
        have Hb1 := hid hb1
        clear hw1 hb1
        go_wp2_with fail
        rw [Hn.out]
        refine (HcO.out _ _ (Ro.out.below Hb1.out)).mono ?_
        rintro e w2 ⟨rfl, q2, hw2⟩
        rw [← Hn.out]
        have hb2 : Below w.heap.size w w2 := by rw [hw2]; exact below_drewN Hb1.out q2
        have Hb2 := hid hb2
        clear hw2 hb2 Hb1
        go_wp2_with fail
        go_ret2
        exact ⟨_, [], rfl, SAll.nil _ _ _ Hb2.out.size, fun h => absurd h hy0, fun _ => ⟨rfl, rfl⟩, Hb2.out⟩
  · have hd : (x == 0) = false := by simpa using hx0
    have hve : vErr a (sig ls) = x := by rw [Hve.out, if_pos hx0]
    rw [hve]
    clear hve
    go_enter Try.func9, Try.ntmps9
    go_wp2_with fail
    rw [Hla.out]
    refine Hc1.out.mono ?_
    rintro e w1 ⟨rfl, q, hw1⟩
    rw [← Hla.out]
    have hb1 : Below w.heap.size w w1 := by rw [hw1]; exact below_drewN ((Below.refl w.heap.size w).alloc (Nat.le_refl _) _) q
    have Hb1 := hid hb1
    clear hw1 hb1
    go_wp2_with fail
    go_ret2
    exact ⟨_, [], rfl, SAll.nil _ _ _ Hb1.out.size, fun h => absurd h hx0, fun _ => ⟨rfl, rfl⟩, Hb1.out⟩
end Go.Proofs.Ytaoddenadfmdbaa
