/- WALK: the reference's Variants. -/
import Derived.Test.YtoljnbbhoeloeaaRefVarL
import Derived.Test.YtoljnbbhoeloeaaRefStrW
import Derived.Test.YtoljnbbhoeloeaaCheckL
namespace Go.Proofs.Ytoljnbbhoeloeaa
open Go.RowKit
theorem Try.infoRefVariant : (Try.prog.info? 33).map (fun i => (i.zero, i.size, i.bytes)) = some (some (.agg #[.int .i64 0, .int .i64 0, .slice none 0 0]), 3, 40) := by kernel_rfl
theorem rowOf_len (a : List Int) (sg : List (List Int)) (at_ k : Nat) : (rowOf a sg at_ k).length ≤ (raw a sg k).length := by rw [rowOf_eq]; exact List.length_filter_le _ _
theorem refRaw_len (a : List Int) (sg : List (List Int)) (n : Nat) : ∀ m, (refRaw a sg n m).length ≤ m * (raw a sg n).length
  | 0 => by simp [refRaw]
  | m + 1 => by
    have h1 := refRaw_len a sg n m
    have h2 := rowOf_len a sg m n
    rw [refRaw, List.length_append, Nat.add_mul]
    omega
set_option maxRecDepth 100000 in
set_option maxHeartbeats 2000000 in
theorem ref_variants_any (a : List Int) (ls : List Ln) (Aa Ao : Option Addr) (ca co : Nat) (w : World) (ra : Rd w w.heap.size Aa a) (ro : Lns w w.heap.size Ao ls) :
    Calls Try.prog 18 #[.slice Aa a.length ca, .slice Ao ls.length co] w fun e w' => ∃ v es, e = .returned (.tuple #[v, .int .i64 (vErr a (sig ls))]) ∧ SAll w' w.heap.size 33 v es ∧ (vErr a (sig ls) = 0 → es.map dec = refRaw a (sig ls) ls.length (a.length + 1)) ∧ (vErr a (sig ls) ≠ 0 → v = .slice none 0 0 ∧ es = []) ∧ Below w.heap.size w w' := by
  have hc1 := checkLine_any a Aa ca w w.heap.size ra
  obtain ⟨x, hx⟩ : ∃ x, x = lineErr a := ⟨_, rfl⟩
  rw [← hx] at hc1
  obtain ⟨y, hy⟩ : ∃ y, y = linesErr (sig ls) := ⟨_, rfl⟩
  have hve : vErr a (sig ls) = if x ≠ 0 then x else if 8 < ls.length then 2 else y := by rw [vErr, ← hx, ← hy]; simp [sig]
  have ha60 : x = 0 → a.length ≤ 60 := fun h => lineErr_le (by rw [← hx]; exact h)
  have Hc1 := hid hc1; have Hve := hid hve; have Ra := hid ra; have Ro := hid ro; have Ha60 := hid ha60; have Hy := hid hy
  clear hc1 hve ra ro ha60 hx hy
  obtain ⟨la, hla⟩ : ∃ la, la = a.length := ⟨_, rfl⟩
  obtain ⟨n, hn⟩ : ∃ n, n = ls.length := ⟨_, rfl⟩
  rw [← hla, ← hn]
  have Hla := hid hla; have Hn := hid hn; clear hla hn
  by_cases hx0 : x = 0
  · subst hx0
    by_cases h8 : 8 < n
    · have hd : decide ((8 : Int) < (n : Int)) = true := by simp; omega
      have hve : vErr a (sig ls) = 2 := by rw [Hve.out, if_neg (by simp), if_pos (by rw [← Hn.out]; exact h8)]
      have HV := hid hve
      clear hve h8
      go_enter Try.func18, Try.ntmps18
      go_wp2_with fail
      rw [Hla.out]
      refine Hc1.out.mono ?_
      rintro e w1 ⟨rfl, q, rfl⟩
      rw [← Hla.out]
      go_wp2_with fail
      go_ret2
      exact ⟨_, [], by rw [HV.out]; rfl, SAll.nil _ _ _ (Nat.le_refl _), fun h => by (rw [HV.out] at h; cases h), fun _ => ⟨rfl, rfl⟩, below_drewN (Below.refl _ _) _⟩
    · have hd : decide ((8 : Int) < (n : Int)) = false := by simp; omega
      have hve : vErr a (sig ls) = y := by rw [Hve.out, if_neg (by simp), if_neg (by rw [← Hn.out]; exact h8)]
      have HV := hid hve
      have hn8 : n ≤ 8 := by omega
      clear hve h8
      go_enter Try.func18, Try.ntmps18
      go_wp2_with fail
      rw [Hla.out]
      refine Hc1.out.mono ?_
      rintro e w1 ⟨rfl, q, rfl⟩
      rw [← Hla.out]
      go_wp2_with fail
      clear hd
      go_loopw [7] (fun i wr => ∃ k : Nat, k ≤ n ∧ i = .int .i64 k ∧ Hid (∀ l ∈ (sig ls).take k, lineErr l = 0) ∧ ∃ q, wr = w.drewN q) (fun i _ => n - (intOf i).toNat)
      case atStart => exact ⟨0, by omega, rfl, (fun l hl => by simp at hl), q, rfl⟩
      case round =>
        clear q
        obtain ⟨k, hk, rfl, hE, q, rfl⟩ := hrel
        by_cases hkn : k < n
        · have hk2 : k < ls.length := by rw [← Hn.out]; exact hkn
          obtain ⟨b, o, rfl, _, hc⟩ := Ro.out.at (by omega)
          have p5 := hc k hk2
          have hr : Rd w w.heap.size ls[k].1 ls[k].2.2 := Ro.out.ln _ (List.getElem_mem hk2)
          have hsk : k < (sig ls).length := by simpa [sig] using hk2
          have hsg : (sig ls)[k] = ls[k].2.2 := by simp [sig]
          have hbad : lineErr ls[k].2.2 ≠ 0 → linesErr (sig ls) = lineErr ls[k].2.2 := fun h => by rw [linesErr_bad hsk hE.out (by rw [hsg]; exact h), hsg]
          have hgood : lineErr ls[k].2.2 = 0 → Hid (∀ l ∈ (sig ls).take (k + 1), lineErr l = 0) := fun h l hl => by
            rw [List.take_add_one, List.getElem?_eq_getElem hsk, hsg] at hl
            rcases List.mem_append.1 hl with hl | hl
            · exact hE.out l hl
            · simp at hl; rw [hl]; exact h
          clear hc hsg hE
          obtain ⟨⟨A', c', l⟩, ht⟩ : ∃ t, t = ls[k] := ⟨_, rfl⟩
          rw [← ht] at p5 hr hbad hgood
          simp only at p5 hr hbad hgood
          have hcl := checkLine_any l A' c' (w.drewN q) w.heap.size hr
          obtain ⟨z, hz⟩ : ∃ z, z = lineErr l := ⟨_, rfl⟩
          rw [← hz] at hcl hbad hgood
          have Hbad := hid hbad; have Hgood := hid hgood; have Hcl := hid hcl
          clear hbad hgood hr ht hsk hk2 hcl hz
          by_cases hz0 : z = 0
          · subst hz0
            go_wp2_with (go_at_call 51; refine Hcl.out.mono ?_; rintro e w' ⟨rfl, q2, rfl⟩)
            go_roundw
            case rel => exact ⟨k + 1, by omega, by go_num, Hgood.out (by simp), _, by first | rfl | exact World.drewN_drewN _ _ _⟩
            case measure => simp [intOf]; omega
          · go_wp2_with (go_at_call 51; refine Hcl.out.mono ?_; rintro e w' ⟨rfl, q2, rfl⟩)
            go_ret2
            have hyz : y = z := by rw [Hy.out]; exact Hbad.out hz0
            exact ⟨_, [], by rw [HV.out, hyz]; rfl, SAll.nil _ _ _ (Nat.le_refl _), fun h => absurd (by rw [← hyz, ← HV.out]; exact h) hz0, fun _ => ⟨rfl, rfl⟩, below_drewN (Below.refl _ _) _⟩
        · obtain rfl : k = n := by omega
          have hy0 : y = 0 := by rw [Hy.out]; exact linesErr_ok fun l hl => hE.out l (by rw [List.take_of_length_le (by simp [sig, Hn.out])]; exact hl)
          have HE := hid hE.out
          have hl60 : ∀ l ∈ sig ls, l.length ≤ 60 := fun l hl => lineErr_le (linesErr_all (by rw [← Hy.out]; exact hy0) l hl)
          have hr60 : (raw a (sig ls) k).length ≤ 960 := by
            have := (raw_len a (sig ls) (Ha60.out (by simp)) hl60 k (by rw [Hn.out]; simp [sig])).1
            omega
          subst hy0
          have Hl60 := hid hl60; have Hr60 := hid hr60; have hla60 : la ≤ 60 := by rw [Hla.out]; exact Ha60.out (by simp)
          clear hl60 hr60 hE HE
          obtain ⟨w1, hw1⟩ : ∃ w1, w1 = w.drewN q := ⟨_, rfl⟩
          have hb1 : Below w.heap.size w w1 := by rw [hw1]; exact below_drewN (Below.refl _ _) _
          rw [← hw1]
          have Hb1 := hid hb1
          clear hw1 hb1
          go_wp2_with fail
          go_loopw [9, 10] (fun v i wr => ∃ (t : Nat) (es : List En), t ≤ la + 1 ∧ i = .int .i64 t ∧ SAll wr w.heap.size 33 v es ∧ Hid (es.map dec = refRaw a (sig ls) k t) ∧ Below w.heap.size w wr) (fun _ i _ => la + 1 - (intOf i).toNat)
          case atStart => exact ⟨0, [], by omega, rfl, SAll.nil _ _ _ Hb1.out.size, rfl, Hb1.out⟩
          case round =>
            obtain ⟨t, es, ht, rfl, hS, hE, hbr⟩ := hrel
            have HS := hid hS; have Hbr := hid hbr; clear hS hbr
            by_cases htl : t ≤ la
            · have htz : (t : Int) ≤ (la : Int) := by omega
              go_wp2_with fail
              go_loopw [9, 11] (fun v i wr => ∃ (c : Nat) (es2 : List En), c ≤ k ∧ i = .int .i64 c ∧ SAll wr w.heap.size 33 v es2 ∧ Hid (es2.map dec = refRaw a (sig ls) k t ++ rowOf a (sig ls) t c) ∧ Below w.heap.size w wr) (fun _ i _ => k - (intOf i).toNat)
              case atStart => exact ⟨0, es, by omega, rfl, HS.out, by show _ = _; rw [hE.out]; simp [rowOf], Hbr.out⟩
              case round =>
                have HE := hid hE.out
                clear HS Hbr hE
                obtain ⟨c, es2, hc, rfl, hS, hE2, hbr⟩ := hrel
                by_cases hck : c < k
                · have hk2 : c < ls.length := by rw [← Hn.out]; exact hck
                  obtain ⟨b, o, rfl, hbw, hcc⟩ := Ro.out.at (by omega)
                  have p5 := (hbr.cell (p := ⟨b, o + c, none⟩) hbw).trans (hcc c hk2)
                  have hr : Rd w w.heap.size ls[c].1 ls[c].2.2 := Ro.out.ln _ (List.getElem_mem hk2)
                  have hl60 : ls[c].2.2.length ≤ 60 := Hl60.out _ (by simp only [sig, List.mem_map]; exact ⟨_, List.getElem_mem hk2, rfl⟩)
                  have hsk : rowOf a (sig ls) t (c + 1) = rowOf a (sig ls) t c ++ atOf a t c ls[c].2.2 := by rw [rowOf]; congr 2; simp [sig, List.getD, hk2]
                  have hel : es2.length ≤ 70 * 1000 := by
                    have h1 := refRaw_len a (sig ls) k t
                    have h2 := rowOf_len a (sig ls) t c
                    have h3 := Nat.mul_le_mul (show t ≤ 60 by omega) Hr60.out
                    have h4 : (raw a (sig ls) c).length ≤ 960 := by
                      have := (raw_len a (sig ls) (Ha60.out (by simp)) Hl60.out c (by simp [sig]; omega)).1
                      omega
                    have h5 := congrArg List.length hE2.out
                    simp only [List.length_map, List.length_append] at h5
                    omega
                  clear hcc
                  obtain ⟨⟨A', c', l⟩, htt⟩ : ∃ t, t = ls[c] := ⟨_, rfl⟩
                  rw [← htt] at p5 hr hl60 hsk
                  simp only at p5 hr hl60 hsk
                  have Hr := hid hr; have Hl := hid hl60; have Hsk := hid hsk; have HS := hid hS; have Hbr := hid hbr
                  clear hr hl60 hsk htt hk2 hS hbr
                  obtain ⟨ll, hll⟩ : ∃ ll, ll = l.length := ⟨_, rfl⟩
                  rw [← hll] at p5
                  have Hll := hid hll; clear hll
                  go_wp2_with fail
                  rw [Hla.out, Hll.out]
                  refine (ref_stretches_any a l Aa A' ca c' (Ha60.out (by simp)) Hl.out wr ((Ra.out.below Hbr.out).more Hbr.out.size) ((Hr.out.below Hbr.out).more Hbr.out.size)).mono ?_
                  rintro e w3 ⟨sv, es3, rfl, hS3, henc, hb3⟩
                  rw [← Hla.out]
                  have hS2 := HS.out.below hb3
                  have hbw3 := Hbr.out.trans (hb3.mono Hbr.out.size)
                  have hT := hS3.base_ Hbr.out.size
                  have hm : es3.length ≤ 120 := by have h1 := henc.len; have h2 := (strs_bd a l).1; have h3 := Ha60.out (by simp); have h4 := Hl.out; omega
                  have HS2 := hid hS2; have Hbw3 := hid hbw3; have HT := hid hT; have Henc := hid henc
                  clear hS2 hbw3 hT henc hS3 hb3 HS Hbr p5
                  obtain ⟨A3, c3, rfl⟩ := own_slice HT.out.own
                  obtain ⟨m, hmm⟩ : ∃ m, m = es3.length := ⟨_, rfl⟩
                  rw [← hmm] at hm HT
                  rw [← hmm]
                  have Hmm := hid hmm; clear hmm
                  go_wp2_with fail
                  go_loopw [9, 13] (fun v j wr => ∃ (u : Nat) (es4 : List En), u ≤ m ∧ j = .int .i64 u ∧ SAll wr w.heap.size 33 v es4 ∧ Hid (es4.map dec = refRaw a (sig ls) k t ++ rowOf a (sig ls) t c ++ ((ofCopy a c l).take u).filter (fun x => decide (x.1 = (t : Int)))) ∧ SAll wr w.heap.size 98 (.slice A3 m c3) es3 ∧ Below w.heap.size w wr) (fun _ j _ => m - (intOf j).toNat)
                  case atStart => exact ⟨0, es2, by omega, rfl, HS2.out, by show _ = _; rw [List.take_zero, List.filter_nil, List.append_nil]; exact hE2.out, HT.out, Hbw3.out⟩
                  case round =>
                    obtain ⟨u, es4, hum, rfl, hS, hE4, hT, hbr⟩ := hrel
                    by_cases hun : u < m
                    · have ht3 : u < es3.length := by rw [← Hmm.out]; exact hun
                      have ht4 : u < (strs a l).length := by rw [← Henc.out.len]; exact ht3
                      obtain ⟨g, cg, hv, hg1, hg2, d1, d2, d3⟩ := hT.at ht3
                      injection hv with hA hmm2 hcc
                      subst hA; subst hcc; clear hmm2
                      have hcl := (hT.cl _ (List.getElem_mem ht3)).1
                      obtain ⟨A4, c4, hv4⟩ := own_slice hcl
                      have hel2 : es4.length ≤ 71 * 1000 := by
                        have h2 := congrArg List.length hE4.out
                        have h3 := congrArg List.length hE2.out
                        have h6 := List.length_filter_le (fun x : Va => decide (x.1 = (t : Int))) ((ofCopy a c l).take u)
                        simp only [List.length_map, List.length_append, List.length_take] at h2 h3 h6
                        omega
                      have hq : (ofCopy a c l)[u]? = some (es3[u].1, (c : Int), es3[u].2.2.2) := by
                        have h1 := congrArg (fun x => x[u]?) Henc.out
                        simp only [List.getElem?_map, List.getElem?_eq_getElem ht3, List.getElem?_eq_getElem ht4, Option.map_some, Option.some.injEq, Prod.mk.injEq] at h1
                        simp only [ofCopy, List.getElem?_map, List.getElem?_eq_getElem ht4, Option.map_some]
                        rw [h1.1, h1.2.2]
                      obtain ⟨⟨f, to, uv, sg⟩, hx⟩ : ∃ x, x = es3[u] := ⟨_, rfl⟩
                      rw [← hx] at d1 d2 d3 hcl hv4 hq
                      simp only at d1 d2 d3 hcl hv4 hq
                      subst hv4
                      obtain ⟨ls4, hls4⟩ : ∃ n4, n4 = sg.length := ⟨_, rfl⟩
                      rw [← hls4] at d3 hcl
                      have hnext : ((ofCopy a c l).take (u + 1)).filter (fun x => decide (x.1 = (t : Int))) = ((ofCopy a c l).take u).filter (fun x => decide (x.1 = (t : Int))) ++ (if f = (t : Int) then [(f, (c : Int), sg)] else []) := by
                        rw [List.take_add_one, hq, List.filter_append]
                        congr 1
                        by_cases e : f = (t : Int) <;> simp [e]
                      have Hnext := hid hnext
                      have HS := hid hS; have HT2 := hid hT; have Hcl := hid hcl; have Hbr := hid hbr; have Hls4 := hid hls4
                      clear hS hT hcl hbr hq hx ht3 ht4 hls4 hnext
                      by_cases hft : f = (t : Int)
                      · have hE5 : Hid ((es4 ++ [(f, (c : Int), Value.slice A4 ls4 c4, sg)]).map dec = refRaw a (sig ls) k t ++ rowOf a (sig ls) t c ++ ((ofCopy a c l).take (u + 1)).filter (fun x => decide (x.1 = (t : Int)))) := by
                          show _ = _
                          rw [List.map_append, hE4.out, Hnext.out, if_pos hft, List.append_assoc, List.append_assoc, List.append_assoc]
                          rfl
                        subst hft
                        clear hE4
                        go_wp2_with (at_builtin; go_must (refine app_elem rfl (.tmp 67) (.tmp 76) Try.underlying28 Try.infoRefVariant rfl (by decide) (by decide) rfl w.heap.size _ es4.length _ rfl (HS.out.alloc _).own ⟨wr.heap.size, 0, none⟩ [.int .i64 (t : Int), .int .i64 c, .slice A4 ls4 c4] rfl rfl (cell_news_at _ _ _ (by simp)) (by simp [Value.oneCell']) (by omega) (by have := Hbr.out.size; simp; omega) ?_); intro v' w4 hown hgrow; go_must (have hP := (HS.out.alloc _).pushE (t := ((t : Int), (c : Int), Value.slice A4 ls4 c4, sg)) (by decide) (by simp only; rw [← Hls4.out]; exact Hcl.out.alloc _) hown hgrow); go_must (have hQ := (HT2.out.alloc _).keptBy ((HS.out.alloc _).own) (by decide) (by decide) hgrow); go_must (have hbw := below_app (Hbr.out.alloc Hbr.out.size _) ((HS.out.alloc _).own) hgrow (Nat.le_refl _) (by have := Hbr.out.size; simp; omega)); have HP := hid hP; have HQ := hid hQ; have Hbw := hid hbw; clear hP hQ hbw hown hgrow)
                        go_roundw
                        case rel => exact ⟨u + 1, _, by omega, by go_num, HP.out, hE5, HQ.out, Hbw.out⟩
                        case measure => simp [intOf]; omega
                      · have hE5 : Hid (es4.map dec = refRaw a (sig ls) k t ++ rowOf a (sig ls) t c ++ ((ofCopy a c l).take (u + 1)).filter (fun x => decide (x.1 = (t : Int)))) := by
                          show _ = _
                          rw [hE4.out, Hnext.out, if_neg hft, List.append_nil]
                        have hft2 : (f == (t : Int)) = false := by simpa using hft
                        clear hE4
                        go_wp2_with fail
                        go_roundw
                        case rel => exact ⟨u + 1, es4, by omega, by go_num, HS.out, hE5, HT2.out, Hbr.out⟩
                        case measure => simp [intOf]; omega
                    · obtain rfl : u = m := by omega
                      have hE6 : Hid (es4.map dec = refRaw a (sig ls) k t ++ rowOf a (sig ls) t (c + 1)) := by
                        show _ = _
                        rw [Hsk.out, hE4.out, List.take_of_length_le, List.append_assoc]
                        · rfl
                        · rw [ofCopy, List.length_map, ← Henc.out.len, Hmm.out]
                          exact Nat.le_refl _
                      have HS := hid hS; have Hbr := hid hbr
                      clear hS hT hbr hE4
                      go_wp2_with fail
                      go_roundw
                      case rel => exact ⟨c + 1, es4, by omega, by go_num, HS.out, hE6, Hbr.out⟩
                      case measure => simp [intOf]; omega
                · obtain rfl : c = k := by omega
                  have hE7 : Hid (es2.map dec = refRaw a (sig ls) c (t + 1)) := hE2.out
                  have HS := hid hS; have Hbr := hid hbr
                  clear hS hbr hE2
                  go_wp2_with fail
                  go_roundw
                  case rel => exact ⟨t + 1, es2, by omega, by go_num, HS.out, hE7, Hbr.out⟩
                  case measure => simp [intOf]; omega
            · obtain rfl : t = la + 1 := by omega
              have htz : ¬ (la : Int) + 1 ≤ (la : Int) := by omega
              go_wp2_with fail
              go_ret2
              exact ⟨_, by rw [HV.out]; rfl, es, HS.out, fun _ => by rw [hE.out, Hla.out], fun h => absurd HV.out h, Hbr.out⟩
  · have hx2 : (x == 0) = false := by simpa using hx0
    have hx3 : (x != 0) = true := by simpa using hx0
    have hve : vErr a (sig ls) = x := by rw [Hve.out, if_pos hx0]
    have HV := hid hve
    clear hve
    go_enter Try.func18, Try.ntmps18
    go_wp2_with fail
    rw [Hla.out]
    refine Hc1.out.mono ?_
    rintro e w1 ⟨rfl, q, rfl⟩
    rw [← Hla.out]
    go_wp2_with fail
    go_ret2
    exact ⟨_, [], by rw [HV.out]; rfl, SAll.nil _ _ _ (Nat.le_refl _), fun h => absurd (by rw [← HV.out]; exact h) hx0, fun _ => ⟨rfl, rfl⟩, below_drewN (Below.refl _ _) _⟩
end Go.Proofs.Ytoljnbbhoeloeaa
