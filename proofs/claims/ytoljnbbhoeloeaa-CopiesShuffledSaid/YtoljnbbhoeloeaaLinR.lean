/- WALK: the reference's Lines. -/
import Derived.Test.YtoljnbbhoeloeaaLinW
namespace Go.Proofs.Ytoljnbbhoeloeaa
open Go.RowKit
def Fresh (row : List Int) (i k : Nat) : Prop := ¬ nth row i ∈ row.take k
theorem fresh_0 {row : List Int} {i : Nat} : Fresh row i 0 := by simp [Fresh]
theorem fresh_s {row : List Int} {i k : Nat} (hk : k < row.length) (h : Fresh row i k) (hne : ¬ nth row k = nth row i) : Fresh row i (k + 1) := by
  unfold Fresh at *
  rw [List.take_add_one, List.getElem?_eq_getElem hk, Option.toList_some]
  intro hm
  rcases List.mem_append.1 hm with hm | hm
  · exact h hm
  · refine hne ?_
    rw [List.mem_singleton.1 hm, nth, List.getD, List.getElem?_eq_getElem hk]
    rfl
theorem fresh_no {N : Nat} {row : List Int} {i k : Nat} (hi : i < row.length) (hk : k < i) (he : nth row k = nth row i) : posOk N row i = false := by
  have hm : nth row i ∈ row.take i := by
    rw [← he, nth, List.getD, List.getElem?_eq_getElem (by omega)]
    exact List.mem_take_iff_getElem.2 ⟨k, by omega, rfl⟩
  unfold posOk
  rw [List.contains_iff_mem.2 hm]
  simp
theorem fresh_ok {N : Nat} {row : List Int} {i : Nat} (hx : 0 ≤ nth row i ∧ nth row i < (N : Int)) (h : Fresh row i i) : posOk N row i = true := by
  unfold posOk
  rw [decide_eq_true hx]
  simp only [Bool.true_and, Bool.not_eq_true']
  rw [Bool.eq_false_iff]
  intro hc
  exact h (List.contains_iff_mem.1 hc)
theorem range_no {N : Nat} {row : List Int} {i : Nat} (hx : ¬ (0 ≤ nth row i ∧ nth row i < (N : Int))) : posOk N row i = false := by
  unfold posOk
  rw [decide_eq_false hx]
  rfl
set_option maxRecDepth 100000 in
set_option maxHeartbeats 4000000 in
theorem ref_lines_any (bs : List Bk) (row : List Int) (A Ar : Option Addr) (c cr : Nat) (hrl : row.length ≤ 100) (hcr : row.length ≤ cr) (w : World) (r : Bks w w.heap.size A bs) (rr : Rd w w.heap.size Ar row) :
    Calls Try.prog 46 #[.slice A bs.length c, .slice Ar row.length cr] w fun e w' => LinIs bs row w e w' := by
  have HC := hid (ref_checkBlocks_any bs A c w r)
  by_cases h0 : blksErr bs = 0
  · have hn8 := (blks_ok h0).1
    rw [h0] at HC
    obtain ⟨n, hn⟩ : ∃ n, n = row.length := ⟨_, rfl⟩
    obtain ⟨N, hN⟩ : ∃ N, N = bs.length := ⟨_, rfl⟩
    rw [← hn] at hrl hcr ⊢
    rw [← hN] at hn8 HC ⊢
    have HN := hid hN; have Hn := hid hn; have R := hid r; have RR := hid rr; have H0 := hid h0
    clear hN hn r rr h0
    have q1 : IntKind.i64.wrap ((N : Int) - 1) = (N : Int) - 1 := IntWalk.i64_in _ (by omega)
    go_enter Try.func46, Try.ntmps46
    go_wp2_with (first | (go_at_call 33; refine HC.out.mono ?_; rintro e w3 ⟨rfl, hb3⟩; have HB3 := hid hb3; clear hb3))
    go_loopw [7] (fun i wr => ∃ k : Nat, k ≤ n ∧ i = .int .i64 k ∧ Hid (posTo N row k = true) ∧ Hid (Below w.heap.size w wr)) (fun i _ => n - (intOf i).toNat)
    case atStart => exact ⟨0, by omega, rfl, rfl, HB3.out⟩
    case round =>
      obtain ⟨k, hk, rfl, hP, hB⟩ := hrel
      by_cases hkn : k < n
      · obtain ⟨b, o, rfl, hbB, hc⟩ := RR.out.at (by rw [← Hn.out]; omega)
        have hkr : k < row.length := by rw [← Hn.out]; exact hkn
        have p1 := (hB.out.cell (p := ⟨b, o + k, none⟩) hbB).trans (hc k hkr)
        have hbad := posTo_bad (N := N) (k := k) (row := row) hkr
        have hnext := posTo_s hP.out
        have hE2 : posTo N row row.length = false → _ := fun h => lin_e2 H0.out (by rw [← HN.out]; exact h)
        have HOK := hid fun h1 h2 => hnext (fresh_ok (N := N) h1 h2)
        have HBAD := hid fun h => hE2 (hbad h)
        have HDUP := hid fun (j : Nat) (hj : j < k) h => HBAD.out (fresh_no (N := N) hkr hj h)
        have HOUT := hid fun h => HBAD.out (range_no (N := N) h)
        have HFR := hid fun (j : Nat) (hj : j < k) h1 h2 => fresh_s (row := row) (i := k) (k := j) (by omega) h1 h2
        have HF0 := hid (fresh_0 (row := row) (i := k))
        have HCC := hid hc
        obtain ⟨x, hx⟩ : ∃ x, x = nth row k := ⟨_, rfl⟩
        rw [← hx] at p1 HOK HDUP HOUT
        have HXE := hid hx
        clear hbad hnext hE2 hc hx hkr
        by_cases hx0 : x < 0
        · have d0 : decide (x < 0) = true := decide_eq_true hx0
          have HX := hid (HOUT.out (by omega))
          clear hx0
          go_wp2_with fail
          go_ret2
          exact lin_none HX.out hB.out
        · have d0 : decide (x < 0) = false := decide_eq_false hx0
          by_cases hxN : (N : Int) ≤ x
          · have d1 : decide ((N : Int) ≤ x) = true := decide_eq_true hxN
            have HX := hid (HOUT.out (by omega))
            clear hx0 hxN
            go_wp2_with fail
            go_ret2
            exact lin_none HX.out hB.out
          · have d1 : decide ((N : Int) ≤ x) = false := decide_eq_false hxN
            have HIN : Hid (0 ≤ x ∧ x < (N : Int)) := hid (by omega)
            clear hx0 hxN
            go_wp2_with fail
            go_loopw [8] (fun jv wr => ∃ j : Nat, j ≤ k ∧ jv = .int .i64 j ∧ Hid (Fresh row k j) ∧ Hid (Below w.heap.size w wr)) (fun i _ => k - (intOf i).toNat)
            case atStart => exact ⟨0, by omega, rfl, HF0.out, hB.out⟩
            case round =>
              obtain ⟨j, hj, rfl, hFr, hB2⟩ := hrel
              by_cases hjk : j < k
              · have p2 := (hB2.out.cell (p := ⟨b, o + k, none⟩) hbB).trans (HCC.out k (by rw [← Hn.out]; exact hkn))
                have p3 := (hB2.out.cell (p := ⟨b, o + j, none⟩) hbB).trans (HCC.out j (by rw [← Hn.out]; omega))
                rw [← HXE.out] at p2
                have hfs := HFR.out j hjk hFr.out
                have hdp := HDUP.out j hjk
                rw [← HXE.out] at hfs
                generalize nth row j = y at p3 hfs hdp
                have hjn : (j : Int) < (n : Int) := by omega
                by_cases hyx : y = x
                · have d2 : (y == x) = true := by simp [hyx]
                  have HX := hid (hdp hyx)
                  clear hfs hdp hyx
                  go_wp2_with fail
                  go_quiet (fail)
                  go_wp2_with fail
                  go_ret2
                  exact lin_none HX.out (below_drewN hB2.out _)
                · have d2 : (y == x) = false := by simp [hyx]
                  have HX := hid (hfs hyx)
                  clear hfs hdp hyx
                  go_wp2_with fail
                  go_quiet (fail)
                  go_wp2_with fail
                  go_roundw
                  case rel => exact ⟨j + 1, by omega, by go_num, HX.out, below_drewN hB2.out _⟩
                  case measure => simp [intOf]; omega
              · obtain rfl : k = j := by omega
                have HX := hid (HOK.out HIN.out hFr.out)
                go_wp2_with fail
                go_roundw
                case rel => exact ⟨k + 1, by omega, by go_num, HX.out, hB2.out⟩
                case measure => simp [intOf]; omega
      · obtain rfl : n = k := by omega
        clear hkn hk
        go_wp2_with fail
        go_loopw [9] (fun i wr => ∃ k : Nat, k ≤ n - 1 ∧ i = .int .i64 ((k : Int) + 1) ∧ Hid (lnkTo bs row k = true) ∧ Hid (Below w.heap.size w wr)) (fun i _ => n - (intOf i).toNat)
        case atStart => exact ⟨0, by omega, rfl, rfl, hB.out⟩
        case round =>
          obtain ⟨k, hk, rfl, hL, hB⟩ := hrel
          by_cases hkn : k + 1 < n
          · have hk0 : k < row.length := by rw [← Hn.out]; omega
            have hk1 : k + 1 < row.length := by rw [← Hn.out]; omega
            obtain ⟨b, o, rfl, hbB, hc⟩ := RR.out.at (by omega)
            obtain ⟨x, hx, hxN⟩ := pos_get hP.out (show k < n by omega)
            obtain ⟨y, hy, hyN⟩ := pos_get hP.out hkn
            have p1 := (hB.out.cell (p := ⟨b, o + k, none⟩) hbB).trans (hc k hk0)
            have p2 := (hB.out.cell (p := ⟨b, o + (k + 1), none⟩) hbB).trans (hc (k + 1) hk1)
            rw [hx] at p1
            rw [hy] at p2
            have hlk := lnk_of (bs := bs) hx hy
            have hbad := lnkTo_bad (bs := bs) (k := k) (row := row) (by rw [← Hn.out]; omega)
            have hnext := lnkTo_s hL.out
            have hE3 : lnkTo bs row (row.length - 1) = false → _ := fun h => lin_e3 H0.out (by rw [← HN.out, ← Hn.out]; exact hP.out) h
            have hRb := R.out.below hB.out
            obtain ⟨g, s, rfl, hgB, hcb⟩ := hRb.at (by rw [← HN.out]; omega)
            have hx' : x < bs.length := by rw [← HN.out]; exact hxN
            have hy' : y < bs.length := by rw [← HN.out]; exact hyN
            obtain ⟨c0, c1, c2⟩ := hcb x hx'
            obtain ⟨c3, c4, c5⟩ := hcb y hy'
            rw [← Nat.add_assoc] at c1 c2 c4 c5
            have r1 := (hRb.el _ (List.getElem_mem hx')).2.1
            have r2 := (hRb.el _ (List.getElem_mem hy')).1
            have l1 := (blks_low H0.out (List.getElem_mem hx')).2.1
            have l2 := (blks_low H0.out (List.getElem_mem hy')).1
            have l4 := (blks_low H0.out (List.getElem_mem hy')).2.2.1
            have hfe : fitN bs x y = fitB bs[x].r.2.2 bs[y].l.2.2 := by unfold fitN bR bL; rw [List.getElem?_eq_getElem hx', List.getElem?_eq_getElem hy']
            generalize bs[x] = bi at c0 c1 c2 r1 l1 hfe
            generalize bs[y] = bj at c3 c4 c5 r2 l2 l4 hfe
            obtain ⟨⟨Al1, cl1, ll1⟩, ⟨Ar1, cr1, lr⟩, ra1, rc1, rows1⟩ := bi
            obtain ⟨⟨Al, cl, ll⟩, ⟨Ar2, cr2, lr2⟩, ra2, rc2, rows2⟩ := bj
            simp only [] at c0 c1 c2 c3 c4 c5 r1 r2 l1 l2 l4 hfe
            have hszo := hB.out.size
            have hgw : g < wr.heap.size := by omega
            have hbw : b < wr.heap.size := by omega
            have hft := fun w3 (hb3 : Below wr.heap.size wr w3) => ref_fit_any lr ll Ar1 Al Al1 Ar2 ra1 ra2 cr1 cl ll1.length cl1 rows1.length rc1 lr2.length cr2 rows2.length rc2 l1 l2 (by omega) w3 ((r1.more hszo).below hb3 |>.more hb3.size) ((r2.more hszo).below hb3 |>.more hb3.size)
            rw [hlk, hfe] at hbad hnext
            generalize fitB lr ll = p at hft hbad hnext
            generalize ll1.length = n1 at c0 hft
            generalize lr.length = n2 at c1 hft
            generalize rows1.length = n3 at c2 hft
            generalize ll.length = n4 at c3 hft
            generalize lr2.length = n5 at c4 hft
            generalize rows2.length = n6 at c5 hft
            have HFT := hid hft
            have HBAD := hid fun h => hE3 (hbad h)
            have HNX := hid hnext
            have d1 : decide ((k : Int) + 1 < (n : Int)) = true := decide_eq_true (by omega)
            have q2 : IntKind.i64.wrap (k : Int) = (k : Int) := IntWalk.i64_in _ (by omega)
            have q3 : (k : Int) < (n : Int) := by omega
            have q4 : (0 : Int) ≤ (x : Int) := by omega
            have q5 : (x : Int) < (N : Int) := by omega
            have q6 : (0 : Int) ≤ (y : Int) := by omega
            have q7 : (y : Int) < (N : Int) := by omega
            have q8 : (k : Int) + 1 < (n : Int) := by omega
            have q9 : (0 : Int) ≤ (k : Int) + 1 := by omega
            have q10 : ((k : Int) + 1).toNat = k + 1 := by omega
            have q11 : IntKind.i64.wrap ((k : Int) + 1) = (k : Int) + 1 := IntWalk.i64_in _ (by omega)
            have q12 : IntKind.i64.wrap ((k : Int) + 1 + 1) = (k : Int) + 1 + 1 := IntWalk.i64_in _ (by omega)
            clear hft hbad hnext hE3 hlk hfe hx hy hc hcb r1 r2 l1 l2 l4 hx' hy' hk0 hk1 hRb hkn hk
            go_wp2_with fail
            go_region_held3 (fun w' => w'.cell? ⟨b, o + k, none⟩ = some (.int .i64 x) ∧ w'.cell? ⟨b, o + (k + 1), none⟩ = some (.int .i64 y) ∧ w'.cell? ⟨g, s + x * 3, none⟩ = some (.slice Al1 n1 cl1) ∧ w'.cell? ⟨g, s + x * 3 + 1, none⟩ = some (.slice Ar1 n2 cr1) ∧ w'.cell? ⟨g, s + x * 3 + 2, none⟩ = some (.slice ra1 n3 rc1) ∧ w'.cell? ⟨g, s + y * 3, none⟩ = some (.slice Al n4 cl) ∧ w'.cell? ⟨g, s + y * 3 + 1, none⟩ = some (.slice Ar2 n5 cr2) ∧ w'.cell? ⟨g, s + y * 3 + 2, none⟩ = some (.slice ra2 n6 rc2)) (first | exact ⟨p1, p2, c0, c1, c2, c3, c4, c5⟩ | exact ⟨e9, e8, e0, e1, e2, e3, e4, e5⟩)
              (first | (go_at_call 68; refine (HFT.out _ (by first | exact Below.refl _ _ | exact (Below.refl _ _).drew | exact below_drewN (Below.refl _ _) _)).mono ?_; rintro e w2 ⟨rfl, hb4⟩; have e9 := (hb4.cell (p := ⟨b, o + k, none⟩) (by simp; omega)).trans p1; have e8 := (hb4.cell (p := ⟨b, o + (k + 1), none⟩) (by simp; omega)).trans p2; have e0 := (hb4.cell (p := ⟨g, s + x * 3, none⟩) (by simp; omega)).trans c0; have e1 := (hb4.cell (p := ⟨g, s + x * 3 + 1, none⟩) (by simp; omega)).trans c1; have e2 := (hb4.cell (p := ⟨g, s + x * 3 + 2, none⟩) (by simp; omega)).trans c2; have e3 := (hb4.cell (p := ⟨g, s + y * 3, none⟩) (by simp; omega)).trans c3; have e4 := (hb4.cell (p := ⟨g, s + y * 3 + 1, none⟩) (by simp; omega)).trans c4; have e5 := (hb4.cell (p := ⟨g, s + y * 3 + 2, none⟩) (by simp; omega)).trans c5))
            have HB2 := hid (hB.out.trans ((((Below.refl _ _).drew).trans hb4).mono hszo))
            clear hb4 p1 p2 c0 c1 c2 c3 c4 c5 e9 e8 e0 e1 e2 e3 e4 e5
            cases p with
            | true =>
              have HX := hid (HNX.out rfl)
              go_wp2_with fail
              go_roundw
              case rel => exact ⟨k + 1, by omega, by go_num, HX.out, HB2.out⟩
              case measure => simp [intOf]; omega
            | false =>
              have HX := hid (HBAD.out rfl)
              go_wp2_with fail
              go_ret2
              exact lin_none HX.out HB2.out
          · have d1 : decide ((k : Int) + 1 < (n : Int)) = false := decide_eq_false (by omega)
            have hkk : k = n - 1 := by omega
            have HL2 : Hid (lnkTo bs row (row.length - 1) = true) := by rw [← Hn.out, ← hkk]; exact hL.out
            have HP2 : Hid (posTo bs.length row row.length = true) := by rw [← HN.out, ← Hn.out]; exact hP.out
            clear hkk hkn hk hL hP
            by_cases hN0 : N = 0
            · have d2 : ((N : Int) == 0) = true := by rw [hN0]; rfl
              have hbs : bs = [] := List.eq_nil_of_length_eq_zero (by rw [← HN.out]; exact hN0)
              have hr0 : rows0 bs = 0 := by rw [hbs]; rfl
              obtain ⟨e1, e2⟩ := lin_e5 H0.out HP2.out HL2.out (by rw [hr0]; rfl)
              rw [hr0] at e2
              have HX : Hid (linErr bs row = 0 ∧ linOut bs row = []) := ⟨e1, e2⟩
              clear hN0 hbs hr0 e1 e2
              go_wp2_with fail
              go_ret2
              exact lin_none HX.out hB.out
            · have d2 : ((N : Int) == 0) = false := by rw [beq_eq_false_iff_ne]; omega
              have hRb := R.out.below hB.out
              obtain ⟨g, s, rfl, hgB, hcb⟩ := hRb.at (by rw [← HN.out]; omega)
              have h00 : 0 < bs.length := by rw [← HN.out]; omega
              have a3 := (hcb 0 h00).2.2
              rw [Nat.zero_mul, Nat.zero_add, ← rows0_eq h00] at a3
              have hR12 : rows0 bs ≤ 12 := by rw [rows0_eq h00]; exact (blks_rows H0.out (List.getElem_mem h00)).2.1
              obtain ⟨M, hM⟩ : ∃ M, M = rows0 bs := ⟨_, rfl⟩
              rw [← hM] at a3 hR12
              have HM := hid hM
              generalize bs[0].ra = ra0 at a3
              generalize bs[0].rc = rc0 at a3
              have hmk : ∀ W, (Instr.makeSlice 23 (.int .i64 (M : Int)) (.int .i64 (M : Int))).run Try.prog W = .ok (.slice (some ⟨W.heap.size, 0, none⟩) M M) (W.alloc (.cells (madeCells #[.slice none 0 0] M) 22)) := fun W => by
                exact run_make_row' (P := Try.prog) 23 22 (.slice none 0 0) 24 Try.underlying23 Try.infoLine rfl .i64 .i64 M (by omega) (by omega) W
              have n0 : (0 : Int) < (N : Int) := by omega
              have LM0 := hid (LM.start (R := M) hB.out)
              obtain ⟨w5, hw5⟩ : ∃ w5, w5 = wr.alloc (.cells (madeCells #[.slice none 0 0] M) 22) := ⟨_, rfl⟩
              obtain ⟨G, hG⟩ : ∃ G, G = wr.heap.size := ⟨_, rfl⟩
              rw [← hw5, ← hG] at LM0
              clear hM hcb h00 hRb hN0
              go_wp2_with fail
              rw [← hw5, ← hG]
              clear hw5 hG
              go_loopw [11] (fun iv wr => ∃ (r K : Nat) (es : List Ln), r ≤ M ∧ iv = .int .i64 r ∧ Hid (DoneTo bs row es r) ∧ Hid (LM w G M K es (.slice none 0 0) [] wr)) (fun i _ => M - (intOf i).toNat)
              case atStart => exact ⟨0, G + 1, [], by omega, rfl, DoneTo.start, LM0.out⟩
              case round =>
                obtain ⟨r, K, es, hr, rfl, hD, hLM⟩ := hrel
                by_cases hrM : r < M
                · clear hr
                  go_wp2_with fail
                  go_loopw [12] (fun iv wr => ∃ (i : Nat) (v : Value), i ≤ n ∧ iv = .int .i64 i ∧ Hid (LM w G M K es v (catTo bs row r i) wr)) (fun i _ => n - (intOf i).toNat)
                  case atStart => exact ⟨0, _, by omega, rfl, hLM.out⟩
                  case round =>
                    obtain ⟨i, v, hi, rfl, hLi⟩ := hrel
                    have HER : Hid (es.length = r) := hD.out.1
                    obtain ⟨cur, hcur⟩ : ∃ cur, cur = catTo bs row r i := ⟨_, rfl⟩
                    rw [← hcur] at hLi
                    obtain ⟨A5, c5, rfl⟩ := own_slice hLi.out.own
                    have p5 := hLi.out.top.cell (i := r) hrM
                    have z5 := hLi.out.top.frozen r
                    rw [← HER.out, cellsTo_at, HER.out] at p5
                    by_cases hin : i < n
                    · have hir : i < row.length := by rw [← Hn.out]; exact hin
                      have hBw := hLi.out.bel
                      obtain ⟨b, o, rfl, hbB, hc⟩ := RR.out.at (by omega)
                      obtain ⟨x, hx, hxN⟩ := pos_get HP2.out hir
                      have p1 := (hBw.cell (p := ⟨b, o + i, none⟩) hbB).trans (hc i hir)
                      rw [hx] at p1
                      have hRb := R.out.below hBw
                      obtain ⟨g', s', hgs, hgB', hcb⟩ := hRb.at (by omega)
                      injection hgs with hgs
                      injection hgs with e1 e2
                      subst e1; subst e2
                      have a1 := (hcb x hxN).2.2
                      rw [← Nat.add_assoc] at a1
                      have hrx : bs[x].rows.length = M := by rw [(blks_rows H0.out (List.getElem_mem hxN)).1, HM.out]
                      obtain ⟨b3, o3, hra, hb3, hc3⟩ := ((hRb.el _ (List.getElem_mem hxN)).2.2.1).at (by omega)
                      have hrt : r < bs[x].rows.length := by omega
                      have a2 := hc3 r hrt
                      have hrd := ((hRb.el _ (List.getElem_mem hxN)).2.2.1).ln _ (List.getElem_mem hrt)
                      have hlt := (blks_rows H0.out (List.getElem_mem hxN)).2.2 _ (List.getElem_mem hrt)
                      have hat := rAt_of hxN hrt
                      have hcs := catTo_s (bs := bs) (r := r) hir
                      rw [hx, ← hcur] at hcs
                      have hcl : cur.length ≤ row.length * 60 := by rw [hcur]; exact catTo_len H0.out _ _ _
                      rw [hra, hrx] at a1
                      generalize bs[x].rows[r] = t at a2 hrd hlt hat
                      generalize bs[x].rc = rc1 at a1
                      obtain ⟨ta, tc, tl⟩ := t
                      simp only [] at a2 hrd hlt hat
                      have hcs2 : catTo bs row r (i + 1) = cur ++ tl := by rw [hcs, ← hat]; rfl
                      have HCS := hid hcs2
                      have HRD := hid hrd
                      obtain ⟨nt, hnt⟩ : ∃ nt, nt = tl.length := ⟨_, rfl⟩
                      rw [← hnt] at a2 hlt
                      have HTL : Hid (tl.length = nt) := hnt.symm
                      have hxN2 : x < N := by rw [HN.out]; exact hxN
                      have hcl2 : cur.length + nt ≤ 1000000000 := by rw [← Hn.out] at hcl; omega
                      have q4 : (0 : Int) ≤ (x : Int) := by omega
                      have q5 : (x : Int) < (N : Int) := by omega
                      have q6 : (r : Int) < (M : Int) := by omega
                      have HKS : Hid (K ≤ wr.heap.size) := hLi.out.ms
                      clear hrd hcs hcs2 hat hnt hlt hcl hrt hc3 hra hb3 hrx hcb hRb hc hx hxN hir hcur hBw
                      go_wp2_with fail
                      go_region_law (refine step_rd rfl (.tmp 101) (.tmp 112) Try.underlying22 Try.infoInt rfl (by decide) rfl K _ _ cur rfl (own_drew hLi.out.own) ta nt tc w.heap.size tl (by simp [Act.eval, Act.put]) HTL.out (HRD.out.below (Below.refl _ _).drew) (by omega) (by simpa using HKS.out) ?_; intro v4 w4 hown4 hgrow4; obtain ⟨A6, c6, rfl⟩ := own_slice hown4; have c9 := (hLi.out.drew.topA hgrow4).cell hrM; have z9 := (hLi.out.drew.topA hgrow4).frozen r; rw [← HER.out, cellsTo_at, HER.out] at c9; rw [← HTL.out] at hown4; have HS := hid (hLi.out.drew.app2 HER.out hown4 hgrow4); rw [HTL.out] at HS; clear hown4 hgrow4)
                      all_goals
                        go_wp2_with fail
                        go_roundw
                        case rel => exact ⟨i + 1, _, by omega, by go_num, by rw [HCS.out]; exact HS.out⟩
                        case measure => simp [intOf]; omega
                    · obtain rfl : n = i := by omega
                      have HCU := hid hcur
                      clear hcur hi hin
                      by_cases h60 : cur.length ≤ 60
                      · have d3 : decide ((60 : Int) < (cur.length : Int)) = false := decide_eq_false (by omega)
                        have HD2 : Hid (DoneTo bs row (es ++ [(A5, c5, cur)]) (r + 1)) := by
                          rw [HCU.out, Hn.out]
                          exact hD.out.next (by rw [← Hn.out, ← HCU.out]; exact h60)
                        have HL3 := hid hLi.out.next
                        clear h60
                        go_wp2_with fail
                        go_roundw
                        case rel => exact ⟨r + 1, _, _, by omega, by go_num, HD2.out, HL3.out⟩
                        case measure => simp [intOf]; omega
                      · have d3 : decide ((60 : Int) < (cur.length : Int)) = true := decide_eq_true (by omega)
                        have HX := hid (lin_e4 H0.out HP2.out HL2.out (DoneTo.over (row := row) (by rw [← HM.out]; exact hrM) (by rw [← Hn.out, ← HCU.out]; exact h60)))
                        clear h60
                        go_wp2_with fail
                        go_ret2
                        exact lin_none HX.out hLi.out.bel
                · obtain rfl : r = M := by omega
                  obtain ⟨t1, t2, t3⟩ := hD.out
                  have HX := hid (lin_e5 H0.out HP2.out HL2.out (by rw [← HM.out]; exact t3))
                  have HT1 := hid t1
                  have HT2 := hid t2
                  clear t1 t2 t3
                  go_wp2_with fail
                  go_ret2
                  exact ⟨some ⟨G, 0, none⟩, r, es, by rw [HX.out.1, HT1.out]; rfl, hLM.out.lns HT1.out, by rw [HX.out.2, HT2.out, HM.out], hLM.out.bel⟩
  · have hJ := hid (lin_e1 (row := row) h0)
    generalize blksErr bs = e0 at h0 HC hJ
    generalize hN : bs.length = N at *
    generalize hn : row.length = n at *
    clear r hN hn
    go_enter Try.func46, Try.ntmps46
    go_wp2_with (first | (go_at_call 33; refine HC.out.mono ?_; rintro e w3 ⟨rfl, hb3⟩; have HB3 := hid hb3))
    go_ret2
    exact lin_none hJ.out HB3.out
end Go.Proofs.Ytoljnbbhoeloeaa
