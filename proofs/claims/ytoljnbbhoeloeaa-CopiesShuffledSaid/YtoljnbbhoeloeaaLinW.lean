/- WALK: the library's Lines. -/
import Derived.Test.YtoljnbbhoeloeaaLinL
namespace Go.Proofs.Ytoljnbbhoeloeaa
open Go.RowKit
theorem Rd.take {w : World} {B : Nat} {A : Option Addr} {l : List Int} (h : Rd w B A l) (k : Nat) : Rd w B A (l.take k) := by
  refine ⟨by simp, fun hn => ?_⟩
  obtain ⟨ad, rfl, hb, hc⟩ := h.2 (by simp at hn; omega)
  refine ⟨ad, rfl, hb, fun j u hu => hc j u ?_⟩
  have e : ints (l.take k) = (ints l).take k := by unfold ints; rw [List.map_take]
  rw [e, List.getElem?_take] at hu
  split at hu
  · exact hu
  · cases hu
theorem pos_get {N : Nat} {row : List Int} {n k : Nat} (h : posTo N row n = true) (hk : k < n) : ∃ x : Nat, nth row k = (x : Int) ∧ x < N := by
  have h1 := all_get h hk
  unfold posOk at h1
  simp only [Bool.and_eq_true, decide_eq_true_eq] at h1
  exact ⟨(nth row k).toNat, by omega, by omega⟩
theorem lnk_of {bs : List Bk} {row : List Int} {k x y : Nat} (hx : nth row k = (x : Int)) (hy : nth row (k + 1) = (y : Int)) : lnkOk bs row k = fitN bs x y := by
  unfold lnkOk
  rw [hx, hy]
  rfl
theorem posTo_bad {N : Nat} {row : List Int} {k : Nat} (hk : k < row.length) (h : posOk N row k = false) : posTo N row row.length = false := all_bad hk h
theorem posTo_s {N : Nat} {row : List Int} {k : Nat} (h1 : posTo N row k = true) (h : posOk N row k = true) : posTo N row (k + 1) = true := all_s h1 h
theorem lnkTo_bad {bs : List Bk} {row : List Int} {k : Nat} (hk : k < row.length - 1) (h : lnkOk bs row k = false) : lnkTo bs row (row.length - 1) = false := all_bad hk h
theorem lnkTo_s {bs : List Bk} {row : List Int} {k : Nat} (h1 : lnkTo bs row k = true) (h : lnkOk bs row k = true) : lnkTo bs row (k + 1) = true := all_s h1 h
theorem shrtTo_bad {bs : List Bk} {row : List Int} {k R : Nat} (hk : k < R) (h : shrtOk bs row k = false) : shrtTo bs row R = false := all_bad hk h
theorem shrtTo_s {bs : List Bk} {row : List Int} {k : Nat} (h1 : shrtTo bs row k = true) (h : shrtOk bs row k = true) : shrtTo bs row (k + 1) = true := all_s h1 h
theorem LM.drew {w0 W : World} {g R M : Nat} {es : List Ln} {v : Value} {cur : List Int} (h : LM w0 g R M es v cur W) : LM w0 g R M es v cur W.drew :=
  ⟨h.top, h.own, h.gM, h.ms, h.hg, fun t ht => (h.done t ht).keep (Fr.of_below (Below.refl _ _).drew (Nat.le_refl _)), h.old, h.bel.drew⟩
theorem LM.topA {w0 W W4 : World} {g R M : Nat} {es : List Ln} {v : Value} {cur : List Int} (h : LM w0 g R M es v cur W) (hg : W.grownBy W4 v.ownBlock) : W4.rowIs g 22 R (cellsTo es v) := by
  have hgg := h.gM
  refine h.top.of_block (hg.block g (Nat.lt_of_lt_of_le h.gM h.ms) fun e => ?_)
  have := (h.own.lt g e.symm).1
  omega
theorem LM.app2 {w0 W W4 : World} {g R M r : Nat} {es : List Ln} {v v' : Value} {cur tl : List Int} (h : LM w0 g R M es v cur W) (hr : es.length = r) (ho : W4.ownsRow M 3 1 v' (cur.length + tl.length) (ints (cur ++ tl))) (hg : W.grownBy W4 v.ownBlock) :
    LM w0 g R M es v' (cur ++ tl) (W4.setCell ⟨g, r, none⟩ v') := by
  have := h.app (cur' := cur ++ tl) (by rw [List.length_append]; exact ho) hg
  rwa [hr] at this
/-- The lines that are done. -/
def DoneTo (bs : List Bk) (row : List Int) (es : List Ln) (r : Nat) : Prop := es.length = r ∧ sig es = ((List.range r).map fun k => catTo bs row k row.length) ∧ shrtTo bs row r = true
theorem DoneTo.start {bs : List Bk} {row : List Int} : DoneTo bs row [] 0 := ⟨rfl, rfl, rfl⟩
theorem DoneTo.next {bs : List Bk} {row : List Int} {es : List Ln} {r : Nat} {A : Option Addr} {c : Nat} (h : DoneTo bs row es r) (hl : (catTo bs row r row.length).length ≤ 60) : DoneTo bs row (es ++ [(A, c, catTo bs row r row.length)]) (r + 1) := by
  obtain ⟨h1, h2, h3⟩ := h
  refine ⟨by simp [h1], ?_, shrtTo_s h3 (decide_eq_true hl)⟩
  rw [List.range_succ, List.map_append, ← h2]
  simp [sig]
theorem DoneTo.over {bs : List Bk} {row : List Int} {r R : Nat} (hr : r < R) (hl : ¬ (catTo bs row r row.length).length ≤ 60) : shrtTo bs row R = false := shrtTo_bad hr (decide_eq_false hl)
set_option maxRecDepth 100000 in
set_option maxHeartbeats 4000000 in
theorem lines_any (bs : List Bk) (row : List Int) (A Ar : Option Addr) (c cr : Nat) (hrl : row.length ≤ 100) (hcr : row.length ≤ cr) (w : World) (r : Bks w w.heap.size A bs) (rr : Rd w w.heap.size Ar row) :
    Calls Try.prog 45 #[.slice A bs.length c, .slice Ar row.length cr] w fun e w' => LinIs bs row w e w' := by
  have HC := hid (checkBlocks_any bs A c w r)
  by_cases h0 : blksErr bs = 0
  · have hn8 := (blks_ok h0).1
    rw [h0] at HC
    obtain ⟨n, hn⟩ : ∃ n, n = row.length := ⟨_, rfl⟩
    obtain ⟨N, hN⟩ : ∃ N, N = bs.length := ⟨_, rfl⟩
    rw [← hn] at hrl hcr ⊢
    rw [← hN] at hn8 HC ⊢
    have HN := hid hN; have Hn := hid hn; have R := hid r; have RR := hid rr; have H0 := hid h0
    clear hN hn r rr h0
    have q1 : IntKind.i64.wrap ((N : Int) - 1) = (N : Int) - 1 := IntWalk.i64_in _ (by omega)
    go_enter Try.func45, Try.ntmps45
    go_wp2_with (first | (go_at_call 32; refine HC.out.mono ?_; rintro e w3 ⟨rfl, hb3⟩; have HB3 := hid hb3; clear hb3))
    go_loopw [21] (fun i wr => ∃ k : Nat, k ≤ n ∧ i = .int .i64 k ∧ Hid (posTo N row k = true) ∧ Hid (Below w.heap.size w wr)) (fun i _ => n - (intOf i).toNat)
    case atStart => exact ⟨0, by omega, rfl, rfl, HB3.out⟩
    case round =>
      obtain ⟨k, hk, rfl, hP, hB⟩ := hrel
      by_cases hkn : k < n
      · obtain ⟨b, o, rfl, hbB, hc⟩ := RR.out.at (by rw [← Hn.out]; omega)
        have p1 := (hB.out.cell (p := ⟨b, o + k, none⟩) hbB).trans (hc k (by rw [← Hn.out]; exact hkn))
        have hcon := fun w3 (hb : Below w.heap.size w w3) => contains_any (row.take k) (nth row k) (some ⟨b, o, none⟩) cr (by rw [List.length_take, ← Hn.out]; omega) w3 w.heap.size ((RR.out.take k).below hb)
        have hlk : (row.take k).length = k := by rw [List.length_take, ← Hn.out]; omega
        rw [hlk] at hcon
        have hpk : posOk N row k = (decide (0 ≤ nth row k ∧ nth row k ≤ (N : Int) - 1) && !(row.take k).contains (nth row k)) := by
          unfold posOk
          congr 1
          rw [decide_eq_decide]
          omega
        have hbad := posTo_bad (N := N) (k := k) (row := row) (by rw [← Hn.out]; exact hkn)
        have hnext := posTo_s hP.out
        rw [hpk] at hbad hnext
        have hE2 : posTo N row row.length = false → _ := fun h => lin_e2 H0.out (by rw [← HN.out]; exact h)
        have hcr0 : ¬ cr = 0 := by omega
        have hkc : k ≤ cr := by omega
        generalize (row.take k).contains (nth row k) = p at hcon hbad hnext
        generalize nth row k = x at p1 hcon hbad hnext
        have HCON := hid hcon
        have HBAD := hid fun h => hE2 (hbad h)
        have HNX := hid hnext
        clear hcon hbad hnext hE2 hc hpk hlk
        by_cases hw : 0 ≤ x ∧ x ≤ (N : Int) - 1
        · have hd : decide (0 ≤ x ∧ x ≤ (N : Int) - 1) = true := decide_eq_true hw
          cases p with
          | true =>
            have HX := hid (HBAD.out (by rw [hd]; rfl))
            clear hw
            go_wp2_with (first | (go_at_call 61; refine (within_any _ _ _ _).mono ?_; rintro e w' ⟨rfl, rfl⟩) | (go_at_call 73; refine (HCON.out _ hB.out).mono ?_; rintro e w4 ⟨rfl, q4, rfl⟩))
            go_ret2
            exact lin_none HX.out (below_drewN hB.out _)
          | false =>
            have HX := hid (HNX.out (by rw [hd]; rfl))
            clear hw
            go_wp2_with (first | (go_at_call 61; refine (within_any _ _ _ _).mono ?_; rintro e w' ⟨rfl, rfl⟩) | (go_at_call 73; refine (HCON.out _ hB.out).mono ?_; rintro e w4 ⟨rfl, q4, rfl⟩))
            go_roundw
            case rel => exact ⟨k + 1, by omega, by go_num, HX.out, below_drewN hB.out _⟩
            case measure => simp [intOf]; omega
        · have hd : decide (0 ≤ x ∧ x ≤ (N : Int) - 1) = false := decide_eq_false hw
          have HX := hid (HBAD.out (by rw [hd]; rfl))
          clear hw
          go_wp2_with (first | (go_at_call 61; refine (within_any _ _ _ _).mono ?_; rintro e w' ⟨rfl, rfl⟩))
          go_ret2
          exact lin_none HX.out hB.out
      · obtain rfl : n = k := by omega
        clear hkn hk
        go_wp2_with fail
        go_loopw [9] (fun i wr => ∃ k : Nat, k ≤ n - 1 ∧ i = .int .i64 ((k : Int) + 1) ∧ Hid (lnkTo bs row k = true) ∧ Hid (Below w.heap.size w wr)) (fun i _ => n - (intOf i).toNat)
        case atStart => exact ⟨0, by omega, rfl, rfl, hB.out⟩
        case round =>
          obtain ⟨k, hk, rfl, hL, hB⟩ := hrel
          by_cases hkn : k + 1 < n
          · have hk0 : k < row.length := by rw [← Hn.out]; omega
            have hk1 : k + 1 < row.length := by rw [← Hn.out]; omega
            obtain ⟨b, o, rfl, hbB, hc⟩ := RR.out.at (by omega)
            obtain ⟨x, hx, hxN⟩ := pos_get hP.out (show k < n by omega)
            obtain ⟨y, hy, hyN⟩ := pos_get hP.out hkn
            have p1 := (hB.out.cell (p := ⟨b, o + k, none⟩) hbB).trans (hc k hk0)
            have p2 := (hB.out.cell (p := ⟨b, o + (k + 1), none⟩) hbB).trans (hc (k + 1) hk1)
            rw [hx] at p1
            rw [hy] at p2
            have hlk := lnk_of (bs := bs) hx hy
            have hbad := lnkTo_bad (bs := bs) (k := k) (row := row) (by rw [← Hn.out]; omega)
            have hnext := lnkTo_s hL.out
            have hE3 : lnkTo bs row (row.length - 1) = false → _ := fun h => lin_e3 H0.out (by rw [← HN.out, ← Hn.out]; exact hP.out) h
            have hRb := R.out.below hB.out
            obtain ⟨g, s, rfl, hgB, hcb⟩ := hRb.at (by rw [← HN.out]; omega)
            have hx' : x < bs.length := by rw [← HN.out]; exact hxN
            have hy' : y < bs.length := by rw [← HN.out]; exact hyN
            have a1 := (hcb x hx').2.1
            have a2 := (hcb y hy').1
            rw [← Nat.add_assoc] at a1
            have r1 := (hRb.el _ (List.getElem_mem hx')).2.1
            have r2 := (hRb.el _ (List.getElem_mem hy')).1
            have l1 := (blks_low H0.out (List.getElem_mem hx')).2.1
            have l2 := (blks_low H0.out (List.getElem_mem hy')).1
            have l4 := (blks_low H0.out (List.getElem_mem hy')).2.2.1
            have hfe : fitN bs x y = fitB bs[x].r.2.2 bs[y].l.2.2 := by unfold fitN bR bL; rw [List.getElem?_eq_getElem hx', List.getElem?_eq_getElem hy']
            generalize bs[x] = bi at a1 r1 l1 hfe
            generalize bs[y] = bj at a2 r2 l2 l4 hfe
            obtain ⟨⟨Al1, cl1, ll1⟩, ⟨Ar1, cr1, lr⟩, ra1, rc1, rows1⟩ := bi
            obtain ⟨⟨Al, cl, ll⟩, ⟨Ar2, cr2, lr2⟩, ra2, rc2, rows2⟩ := bj
            simp only [] at a1 a2 r1 r2 l1 l2 l4 hfe
            have hft := fun q => fits_any lr ll Ar1 Al cr1 cl l1 l2 (by omega) (wr.drewN q) w.heap.size (r1.below (below_drewN (Below.refl _ _) _)) (r2.below (below_drewN (Below.refl _ _) _))
            rw [hlk, hfe] at hbad hnext
            generalize fitB lr ll = p at hft hbad hnext
            generalize lr.length = n2 at a1 hft
            generalize ll.length = n4 at a2 hft
            have HFT := hid hft
            have HBAD := hid fun h => hE3 (hbad h)
            have HNX := hid hnext
            have d1 : decide ((k : Int) + 1 < (n : Int)) = true := decide_eq_true (by omega)
            have q2 : IntKind.i64.wrap (k : Int) = (k : Int) := IntWalk.i64_in _ (by omega)
            have q3 : (k : Int) < (n : Int) := by omega
            have q4 : (0 : Int) ≤ (x : Int) := by omega
            have q5 : (x : Int) < (N : Int) := by omega
            have q6 : (0 : Int) ≤ (y : Int) := by omega
            have q7 : (y : Int) < (N : Int) := by omega
            have q8 : (k : Int) + 1 < (n : Int) := by omega
            have q9 : (0 : Int) ≤ (k : Int) + 1 := by omega
            have q10 : ((k : Int) + 1).toNat = k + 1 := by omega
            have q11 : IntKind.i64.wrap ((k : Int) + 1) = (k : Int) + 1 := IntWalk.i64_in _ (by omega)
            have q12 : IntKind.i64.wrap ((k : Int) + 1 + 1) = (k : Int) + 1 + 1 := IntWalk.i64_in _ (by omega)
            clear hft hbad hnext hE3 hlk hfe hx hy hc hcb r1 r2 l1 l2 l4 hx' hy' hk0 hk1 hRb hkn hk
            go_wp2_with fail
            go_quiet ((go_at_call 67; go_must (exact (HFT.out _).mono fun e w' h => ⟨h.1, by obtain ⟨_, n5, hw⟩ := h; exact ⟨_, by rw [hw, World.drewN_drewN]⟩⟩)))
            cases p with
            | true =>
              have HX := hid (HNX.out rfl)
              go_wp2_with fail
              go_roundw
              case rel => exact ⟨k + 1, by omega, by go_num, HX.out, below_drewN hB.out _⟩
              case measure => simp [intOf]; omega
            | false =>
              have HX := hid (HBAD.out rfl)
              go_wp2_with fail
              go_ret2
              exact lin_none HX.out (below_drewN hB.out _)
          · have d1 : decide ((k : Int) + 1 < (n : Int)) = false := decide_eq_false (by omega)
            have hkk : k = n - 1 := by omega
            have HL2 : Hid (lnkTo bs row (row.length - 1) = true) := by rw [← Hn.out, ← hkk]; exact hL.out
            have HP2 : Hid (posTo bs.length row row.length = true) := by rw [← HN.out, ← Hn.out]; exact hP.out
            clear hkk hkn hk hL hP
            by_cases hN0 : N = 0
            · have d2 : ((N : Int) == 0) = true := by rw [hN0]; rfl
              have hbs : bs = [] := List.eq_nil_of_length_eq_zero (by rw [← HN.out]; exact hN0)
              have hr0 : rows0 bs = 0 := by rw [hbs]; rfl
              obtain ⟨e1, e2⟩ := lin_e5 H0.out HP2.out HL2.out (by rw [hr0]; rfl)
              rw [hr0] at e2
              have HX : Hid (linErr bs row = 0 ∧ linOut bs row = []) := ⟨e1, e2⟩
              clear hN0 hbs hr0 e1 e2
              go_wp2_with fail
              go_ret2
              exact lin_none HX.out hB.out
            · have d2 : ((N : Int) == 0) = false := by rw [beq_eq_false_iff_ne]; omega
              have hRb := R.out.below hB.out
              obtain ⟨g, s, rfl, hgB, hcb⟩ := hRb.at (by rw [← HN.out]; omega)
              have h00 : 0 < bs.length := by rw [← HN.out]; omega
              have a3 := (hcb 0 h00).2.2
              rw [Nat.zero_mul, Nat.zero_add, ← rows0_eq h00] at a3
              have hR12 : rows0 bs ≤ 12 := by rw [rows0_eq h00]; exact (blks_rows H0.out (List.getElem_mem h00)).2.1
              obtain ⟨M, hM⟩ : ∃ M, M = rows0 bs := ⟨_, rfl⟩
              rw [← hM] at a3 hR12
              have HM := hid hM
              generalize bs[0].ra = ra0 at a3
              generalize bs[0].rc = rc0 at a3
              have hmk : ∀ W, (Instr.makeSlice 23 (.int .i64 (M : Int)) (.int .i64 (M : Int))).run Try.prog W = .ok (.slice (some ⟨W.heap.size, 0, none⟩) M M) (W.alloc (.cells (madeCells #[.slice none 0 0] M) 22)) := fun W => by
                exact run_make_row' (P := Try.prog) 23 22 (.slice none 0 0) 24 Try.underlying23 Try.infoLine rfl .i64 .i64 M (by omega) (by omega) W
              have n0 : (0 : Int) < (N : Int) := by omega
              have LM0 := hid (LM.start (R := M) hB.out)
              obtain ⟨w5, hw5⟩ : ∃ w5, w5 = wr.alloc (.cells (madeCells #[.slice none 0 0] M) 22) := ⟨_, rfl⟩
              obtain ⟨G, hG⟩ : ∃ G, G = wr.heap.size := ⟨_, rfl⟩
              rw [← hw5, ← hG] at LM0
              clear hM hcb h00 hRb hN0
              go_wp2_with fail
              rw [← hw5, ← hG]
              clear hw5 hG
              go_loopw [76] (fun iv wr => ∃ (r K : Nat) (es : List Ln), r ≤ M ∧ iv = .int .i64 r ∧ Hid (DoneTo bs row es r) ∧ Hid (LM w G M K es (.slice none 0 0) [] wr)) (fun i _ => M - (intOf i).toNat)
              case atStart => exact ⟨0, G + 1, [], by omega, rfl, DoneTo.start, LM0.out⟩
              case round =>
                obtain ⟨r, K, es, hr, rfl, hD, hLM⟩ := hrel
                by_cases hrM : r < M
                · clear hr
                  go_wp2_with fail
                  go_loopw [81] (fun iv wr => ∃ (i : Nat) (v : Value), i ≤ n ∧ iv = .int .i64 i ∧ Hid (LM w G M K es v (catTo bs row r i) wr)) (fun i _ => n - (intOf i).toNat)
                  case atStart => exact ⟨0, _, by omega, rfl, hLM.out⟩
                  case round =>
                    obtain ⟨i, v, hi, rfl, hLi⟩ := hrel
                    have HER : Hid (es.length = r) := hD.out.1
                    obtain ⟨cur, hcur⟩ : ∃ cur, cur = catTo bs row r i := ⟨_, rfl⟩
                    rw [← hcur] at hLi
                    obtain ⟨A5, c5, rfl⟩ := own_slice hLi.out.own
                    have p5 := hLi.out.top.cell (i := r) hrM
                    have z5 := hLi.out.top.frozen r
                    rw [← HER.out, cellsTo_at, HER.out] at p5
                    by_cases hin : i < n
                    · have hir : i < row.length := by rw [← Hn.out]; exact hin
                      have hBw := hLi.out.bel
                      obtain ⟨b, o, rfl, hbB, hc⟩ := RR.out.at (by omega)
                      obtain ⟨x, hx, hxN⟩ := pos_get HP2.out hir
                      have p1 := (hBw.cell (p := ⟨b, o + i, none⟩) hbB).trans (hc i hir)
                      rw [hx] at p1
                      have hRb := R.out.below hBw
                      obtain ⟨g', s', hgs, hgB', hcb⟩ := hRb.at (by omega)
                      injection hgs with hgs
                      injection hgs with e1 e2
                      subst e1; subst e2
                      have a1 := (hcb x hxN).2.2
                      rw [← Nat.add_assoc] at a1
                      have hrx : bs[x].rows.length = M := by rw [(blks_rows H0.out (List.getElem_mem hxN)).1, HM.out]
                      obtain ⟨b3, o3, hra, hb3, hc3⟩ := ((hRb.el _ (List.getElem_mem hxN)).2.2.1).at (by omega)
                      have hrt : r < bs[x].rows.length := by omega
                      have a2 := hc3 r hrt
                      have hrd := ((hRb.el _ (List.getElem_mem hxN)).2.2.1).ln _ (List.getElem_mem hrt)
                      have hlt := (blks_rows H0.out (List.getElem_mem hxN)).2.2 _ (List.getElem_mem hrt)
                      have hat := rAt_of hxN hrt
                      have hcs := catTo_s (bs := bs) (r := r) hir
                      rw [hx, ← hcur] at hcs
                      have hcl : cur.length ≤ row.length * 60 := by rw [hcur]; exact catTo_len H0.out _ _ _
                      rw [hra, hrx] at a1
                      generalize bs[x].rows[r] = t at a2 hrd hlt hat
                      generalize bs[x].rc = rc1 at a1
                      obtain ⟨ta, tc, tl⟩ := t
                      simp only [] at a2 hrd hlt hat
                      have hcs2 : catTo bs row r (i + 1) = cur ++ tl := by rw [hcs, ← hat]; rfl
                      have HCS := hid hcs2
                      have HRD := hid hrd
                      obtain ⟨nt, hnt⟩ : ∃ nt, nt = tl.length := ⟨_, rfl⟩
                      rw [← hnt] at a2 hlt
                      have HTL : Hid (tl.length = nt) := hnt.symm
                      have hxN2 : x < N := by rw [HN.out]; exact hxN
                      have hcl2 : cur.length + nt ≤ 1000000000 := by rw [← Hn.out] at hcl; omega
                      have q4 : (0 : Int) ≤ (x : Int) := by omega
                      have q5 : (x : Int) < (N : Int) := by omega
                      have q6 : (r : Int) < (M : Int) := by omega
                      have HKS : Hid (K ≤ wr.heap.size) := hLi.out.ms
                      clear hrd hcs hcs2 hat hnt hlt hcl hrt hc3 hra hb3 hrx hcb hRb hc hx hxN hir hcur hBw
                      go_wp2_with fail
                      go_region_law (refine step_rd rfl (.tmp 90) (.tmp 98) Try.underlying22 Try.infoInt rfl (by decide) rfl K _ _ cur rfl (own_drew hLi.out.own) ta nt tc w.heap.size tl (by simp [Act.eval, Act.put]) HTL.out (HRD.out.below (Below.refl _ _).drew) (by omega) (by simpa using HKS.out) ?_; intro v4 w4 hown4 hgrow4; obtain ⟨A6, c6, rfl⟩ := own_slice hown4; have c9 := (hLi.out.drew.topA hgrow4).cell hrM; have z9 := (hLi.out.drew.topA hgrow4).frozen r; rw [← HER.out, cellsTo_at, HER.out] at c9; rw [← HTL.out] at hown4; have HS := hid (hLi.out.drew.app2 HER.out hown4 hgrow4); rw [HTL.out] at HS; clear hown4 hgrow4)
                      all_goals
                        go_wp2_with fail
                        go_roundw
                        case rel => exact ⟨i + 1, _, by omega, by go_num, by rw [HCS.out]; exact HS.out⟩
                        case measure => simp [intOf]; omega
                    · obtain rfl : n = i := by omega
                      have HCU := hid hcur
                      clear hcur hi hin
                      by_cases h60 : cur.length ≤ 60
                      · have d3 : decide ((60 : Int) < (cur.length : Int)) = false := decide_eq_false (by omega)
                        have HD2 : Hid (DoneTo bs row (es ++ [(A5, c5, cur)]) (r + 1)) := by
                          rw [HCU.out, Hn.out]
                          exact hD.out.next (by rw [← Hn.out, ← HCU.out]; exact h60)
                        have HL3 := hid hLi.out.next
                        clear h60
                        go_wp2_with fail
                        go_roundw
                        case rel => exact ⟨r + 1, _, _, by omega, by go_num, HD2.out, HL3.out⟩
                        case measure => simp [intOf]; omega
                      · have d3 : decide ((60 : Int) < (cur.length : Int)) = true := decide_eq_true (by omega)
                        have HX := hid (lin_e4 H0.out HP2.out HL2.out (DoneTo.over (row := row) (by rw [← HM.out]; exact hrM) (by rw [← Hn.out, ← HCU.out]; exact h60)))
                        clear h60
                        go_wp2_with fail
                        go_ret2
                        exact lin_none HX.out hLi.out.bel
                · obtain rfl : r = M := by omega
                  obtain ⟨t1, t2, t3⟩ := hD.out
                  have HX := hid (lin_e5 H0.out HP2.out HL2.out (by rw [← HM.out]; exact t3))
                  have HT1 := hid t1
                  have HT2 := hid t2
                  clear t1 t2 t3
                  go_wp2_with fail
                  go_ret2
                  exact ⟨some ⟨G, 0, none⟩, r, es, by rw [HX.out.1, HT1.out]; rfl, hLM.out.lns HT1.out, by rw [HX.out.2, HT2.out, HM.out], hLM.out.bel⟩
  · have hJ := hid (lin_e1 (row := row) h0)
    generalize blksErr bs = e0 at h0 HC hJ
    generalize hN : bs.length = N at *
    generalize hn : row.length = n at *
    clear r hN hn
    go_enter Try.func45, Try.ntmps45
    go_wp2_with (first | (go_at_call 32; refine HC.out.mono ?_; rintro e w3 ⟨rfl, hb3⟩; have HB3 := hid hb3))
    go_ret2
    exact lin_none hJ.out HB3.out
end Go.Proofs.Ytoljnbbhoeloeaa
