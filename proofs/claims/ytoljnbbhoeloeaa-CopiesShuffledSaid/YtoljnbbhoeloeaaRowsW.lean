/- WALK: what is before, and what is a row (the law's own functions). -/
import Derived.Test.YtoljnbbhoeloeaaLinR
import Derived.Test.YtoljnbbhoeloeaaJoins
namespace Go.Proofs.Ytoljnbbhoeloeaa
open Go.RowKit
/-- Whether one list of numbers comes before the other: by the first place at which they differ. -/
def befB : List Int → List Int → Bool
  | a :: xs, b :: ys => if a = b then befB xs ys else decide (a < b)
  | _, _ => false
theorem bef_at : ∀ (k : Nat) {a b : List Int}, k < a.length → k < b.length → (∀ j, j < k → nth a j = nth b j) → ¬ nth a k = nth b k → befB a b = decide (nth a k < nth b k)
  | 0, a :: xs, b :: ys, _, _, _, hne => by
    have hne2 : ¬ a = b := hne
    rw [befB, if_neg hne2]; rfl
  | k + 1, a :: xs, b :: ys, h1, h2, hp, hne => by
    have h0 : a = b := hp 0 (by omega)
    rw [befB, if_pos h0]
    exact bef_at k (by simpa using h1) (by simpa using h2) (fun j hj => hp (j + 1) (by omega)) hne
theorem bef_end : ∀ (k : Nat) {a b : List Int}, ¬ (k < a.length ∧ k < b.length) → (∀ j, j < k → nth a j = nth b j) → befB a b = false
  | _, [], _, _, _ => by simp [befB]
  | _, _ :: _, [], _, _ => by simp [befB]
  | 0, a :: xs, b :: ys, h, _ => by simp at h
  | k + 1, a :: xs, b :: ys, h, hp => by
    have h0 : a = b := hp 0 (by omega)
    rw [befB, if_pos h0]
    exact bef_end k (by simpa using h) (fun j hj => hp (j + 1) (by omega))
def EqTo (a b : List Int) (k : Nat) : Prop := ∀ j, j < k → nth a j = nth b j
theorem eqTo_s {a b : List Int} {k : Nat} (h : EqTo a b k) (h2 : nth a k = nth b k) : EqTo a b (k + 1) := fun j hj => by
  rcases Nat.lt_or_ge j k with h3 | h3
  · exact h j h3
  · obtain rfl : j = k := by omega
    exact h2
set_option maxRecDepth 100000 in
set_option maxHeartbeats 1000000 in
theorem before_any (a b : List Int) (Aa Ab : Option Addr) (ca cb : Nat) (ha : a.length ≤ 1000000) (w : World) (B : Nat) (ra : Rd w B Aa a) (rb : Rd w B Ab b) :
    Calls Try.prog 42 #[.slice Aa a.length ca, .slice Ab b.length cb] w fun e w' => e = .returned (.bool (befB a b)) ∧ ∃ n, w' = w.drewN n := by
  obtain ⟨n, hn⟩ : ∃ n, n = a.length := ⟨_, rfl⟩
  obtain ⟨m, hm⟩ : ∃ m, m = b.length := ⟨_, rfl⟩
  rw [← hn] at ha
  rw [← hn, ← hm]
  have Hn := hid hn; have Hm := hid hm; have Ra := hid ra; have Rb := hid rb
  clear hn hm ra rb
  go_enter Try.func42, Try.ntmps42
  go_wp2_with fail
  go_loopw [5] (fun i wr => ∃ k : Nat, k ≤ n ∧ i = .int .i64 k ∧ Hid (EqTo a b k) ∧ ∃ q, wr = w.drewN q) (fun i _ => n - (intOf i).toNat)
  case atStart => exact ⟨0, by omega, rfl, (fun j hj => by omega), 0, rfl⟩
  case round =>
    obtain ⟨k, hk, rfl, hE, q, rfl⟩ := hrel
    by_cases hkn : k < n
    · by_cases hkm : k < m
      · obtain ⟨ba, oa, rfl, _, hca⟩ := Ra.out.at (by rw [← Hn.out]; omega)
        obtain ⟨bb, ob_, rfl, _, hcb⟩ := Rb.out.at (by rw [← Hm.out]; omega)
        have p5 : w.cell? ⟨ba, oa + k, none⟩ = some (.int .i64 (nth a k)) := hca k (by rw [← Hn.out]; exact hkn)
        have p6 : w.cell? ⟨bb, ob_ + k, none⟩ = some (.int .i64 (nth b k)) := hcb k (by rw [← Hm.out]; exact hkm)
        have hat := bef_at k (a := a) (b := b) (by rw [← Hn.out]; exact hkn) (by rw [← Hm.out]; exact hkm) hE.out
        have hes := eqTo_s hE.out
        generalize nth a k = x at p5 hat hes
        generalize nth b k = y at p6 hat hes
        clear hca hcb
        by_cases heq : x = y
        · have he : (x != y) = false := by simp [heq]
          have HX := hid (hes heq)
          clear heq hat hes hE
          go_wp2_with fail
          go_quiet (fail)
          go_wp2_with fail
          go_roundw
          case rel => exact ⟨k + 1, by omega, by go_num, HX.out, _, by first | rfl | exact World.drewN_drewN _ _ _⟩
          case measure => simp [intOf]; omega
        · have he : (x != y) = true := by simp [heq]
          have hx := hat heq
          obtain ⟨dd, hdd⟩ : ∃ dd, decide (x < y) = dd := ⟨_, rfl⟩
          rw [hdd] at hx
          have HX := hid hx
          clear heq hat hes hE hx
          go_wp2_with fail
          go_quiet (fail)
          go_wp2_with fail
          go_quiet (fail)
          go_wp2_with fail
          go_ret
          exact ⟨by rw [HX.out]; rfl, _, by first | rfl | (rw [World.drewN_drewN]; first | rfl | exact World.drewN_drewN _ _ _) | exact World.drewN_drewN _ _ _⟩
      · have d1 : decide (k < m) = false := decide_eq_false hkm
        have HX := hid (bef_end k (a := a) (b := b) (by rw [← Hn.out, ← Hm.out]; omega) hE.out)
        clear hE
        go_wp2_with fail
        go_ret
        exact ⟨by rw [HX.out]; rfl, q, rfl⟩
    · obtain rfl : k = n := by omega
      have HX := hid (bef_end k (a := a) (b := b) (by rw [← Hn.out, ← Hm.out]; omega) hE.out)
      clear hE
      go_wp2_with fail
      go_ret
      exact ⟨by rw [HX.out]; rfl, q, rfl⟩
/-- What a row of blocks is. -/
def isRowB (bs : List Bk) (row : List Int) : Bool := decide (row.length = bs.length) && posTo bs.length row row.length && lnkTo bs row (row.length - 1)
theorem isRow_len {bs : List Bk} {row : List Int} (h : ¬ row.length = bs.length) : isRowB bs row = false := by simp [isRowB, h]
theorem isRow_pos {bs : List Bk} {row : List Int} {k : Nat} (hk : k < row.length) (h : posOk bs.length row k = false) : isRowB bs row = false := by
  have := posTo_bad hk h
  unfold isRowB
  rw [this]
  simp
theorem isRow_lnk {bs : List Bk} {row : List Int} {k : Nat} (hk : k < row.length - 1) (h : lnkOk bs row k = false) : isRowB bs row = false := by
  have := lnkTo_bad hk h
  unfold isRowB
  rw [this]
  simp
theorem isRow_yes {bs : List Bk} {row : List Int} (h : row.length = bs.length) (h1 : posTo bs.length row row.length = true) (h2 : lnkTo bs row (row.length - 1) = true) : isRowB bs row = true := by
  unfold isRowB
  rw [h1, h2, decide_eq_true h]
  rfl
theorem pos_ne {N : Nat} {row : List Int} {k : Nat} (hk : k + 1 < row.length) (h : posOk N row (k + 1) = true) : ¬ nth row k = nth row (k + 1) := fun e => by
  have := fresh_no (N := N) hk (Nat.lt_succ_self k) e
  rw [h] at this
  cases this
set_option maxRecDepth 100000 in
set_option maxHeartbeats 4000000 in
theorem isRow_any (bs : List Bk) (h0 : blksErr bs = 0) (row : List Int) (A Ar : Option Addr) (c cr : Nat) (w : World) (r : Bks w w.heap.size A bs) (rr : Rd w w.heap.size Ar row) :
    Calls Try.prog 41 #[.slice A bs.length c, .slice Ar row.length cr] w fun e w' => e = .returned (.bool (isRowB bs row)) ∧ Below w.heap.size w w' := by
  have hn8 := (blks_ok h0).1
  obtain ⟨n, hn⟩ : ∃ n, n = row.length := ⟨_, rfl⟩
  obtain ⟨N, hN⟩ : ∃ N, N = bs.length := ⟨_, rfl⟩
  by_cases hnN : n = N
  · rw [← hn]
    have hN1 : n = bs.length := hnN.trans hN
    subst hnN
    rw [← hN]
    have HN := hid hN; have Hn := hid hn; have R := hid r; have RR := hid rr; have H0 := hid h0
    rw [← hN] at hn8
    clear hN hn r rr h0 hN1
    go_enter Try.func41, Try.ntmps41
    go_wp2_with fail
    go_loopw [5] (fun i wr => ∃ k : Nat, k ≤ n ∧ i = .int .i64 k ∧ Hid (posTo n row k = true) ∧ Hid (lnkTo bs row (k - 1) = true) ∧ Hid (Below w.heap.size w wr)) (fun i _ => n - (intOf i).toNat)
    case atStart => exact ⟨0, by omega, rfl, rfl, rfl, Below.refl _ _⟩
    case round =>
      obtain ⟨k, hk, rfl, hP, hL, hB⟩ := hrel
      by_cases hkn : k < n
      · obtain ⟨b, o, rfl, hbB, hc⟩ := RR.out.at (by rw [← Hn.out]; omega)
        have hkr : k < row.length := by rw [← Hn.out]; exact hkn
        have p1 := (hB.out.cell (p := ⟨b, o + k, none⟩) hbB).trans (hc k hkr)
        have hbad : posOk n row k = false → isRowB bs row = false := fun h => isRow_pos hkr (by rw [← HN.out]; exact h)
        have hnext := posTo_s hP.out
        have HOK := hid fun h1 h2 => And.intro (fresh_ok (N := n) (row := row) (i := k) h1 h2) (hnext (fresh_ok (N := n) h1 h2))
        have HBAD := hid hbad
        have HDUP := hid fun (j : Nat) (hj : j < k) h => HBAD.out (fresh_no (N := n) hkr hj h)
        have HOUT := hid fun h => HBAD.out (range_no (N := n) h)
        have HFR := hid fun (j : Nat) (hj : j < k) h1 h2 => fresh_s (row := row) (i := k) (k := j) (by omega) h1 h2
        have HF0 := hid (fresh_0 (row := row) (i := k))
        have HCC := hid hc
        obtain ⟨x, hx⟩ : ∃ x, x = nth row k := ⟨_, rfl⟩
        rw [← hx] at p1 HOK HDUP HOUT
        have HXE := hid hx
        clear hbad hnext hc hx hkr
        by_cases hx0 : x < 0
        · have d0 : decide (x < 0) = true := decide_eq_true hx0
          have HX := hid (HOUT.out (by omega))
          clear hx0
          go_wp2_with fail
          go_ret
          exact ⟨by rw [HX.out]; rfl, hB.out⟩
        · have d0 : decide (x < 0) = false := decide_eq_false hx0
          by_cases hxN : (n : Int) ≤ x
          · have d1 : decide ((n : Int) ≤ x) = true := decide_eq_true hxN
            have HX := hid (HOUT.out (by omega))
            clear hx0 hxN
            go_wp2_with fail
            go_ret
            exact ⟨by rw [HX.out]; rfl, hB.out⟩
          · have d1 : decide ((n : Int) ≤ x) = false := decide_eq_false hxN
            have HIN : Hid (0 ≤ x ∧ x < (n : Int)) := hid (by omega)
            clear hx0 hxN
            go_wp2_with fail
            go_loopw [6] (fun jv wr => ∃ j : Nat, j ≤ k ∧ jv = .int .i64 j ∧ Hid (Fresh row k j) ∧ Hid (Below w.heap.size w wr)) (fun i _ => k - (intOf i).toNat)
            case atStart => exact ⟨0, by omega, rfl, HF0.out, hB.out⟩
            case round =>
              obtain ⟨j, hj, rfl, hFr, hB2⟩ := hrel
              by_cases hjk : j < k
              · have p2 := (hB2.out.cell (p := ⟨b, o + k, none⟩) hbB).trans (HCC.out k (by rw [← Hn.out]; exact hkn))
                have p3 := (hB2.out.cell (p := ⟨b, o + j, none⟩) hbB).trans (HCC.out j (by rw [← Hn.out]; omega))
                rw [← HXE.out] at p2
                have hfs := HFR.out j hjk hFr.out
                have hdp := HDUP.out j hjk
                rw [← HXE.out] at hfs
                generalize nth row j = y at p3 hfs hdp
                have hjn : (j : Int) < (n : Int) := by omega
                by_cases hyx : y = x
                · have d2 : (y == x) = true := by simp [hyx]
                  have HX := hid (hdp hyx)
                  clear hfs hdp hyx
                  go_wp2_with fail
                  go_quiet (fail)
                  go_wp2_with fail
                  go_ret
                  exact ⟨by rw [HX.out]; rfl, below_drewN hB2.out _⟩
                · have d2 : (y == x) = false := by simp [hyx]
                  have HX := hid (hfs hyx)
                  clear hfs hdp hyx
                  go_wp2_with fail
                  go_quiet (fail)
                  go_wp2_with fail
                  go_roundw
                  case rel => exact ⟨j + 1, by omega, by go_num, HX.out, below_drewN hB2.out _⟩
                  case measure => simp [intOf]; omega
              · obtain rfl : k = j := by omega
                obtain ⟨ok1, ok2⟩ := HOK.out HIN.out hFr.out
                have HX := hid ok2
                have HOK1 := hid ok1
                clear ok1 ok2
                by_cases hk0 : k = 0
                · have d3 : decide ((0 : Int) < (k : Int)) = false := decide_eq_false (by omega)
                  have HL1 : Hid (lnkTo bs row (k + 1 - 1) = true) := by rw [hk0]; exact hid rfl
                  go_wp2_with fail
                  go_roundw
                  case rel => exact ⟨k + 1, by omega, by go_num, HX.out, HL1.out, hB2.out⟩
                  case measure => simp [intOf]; omega
                · obtain ⟨i, rfl⟩ : ∃ i, k = i + 1 := ⟨k - 1, by omega⟩
                  have d3 : decide ((0 : Int) < ((i : Int) + 1)) = true := decide_eq_true (by omega)
                  have p2 := (hB2.out.cell (p := ⟨b, o + (i + 1), none⟩) hbB).trans (HCC.out (i + 1) (by rw [← Hn.out]; exact hkn))
                  have p3 := (hB2.out.cell (p := ⟨b, o + i, none⟩) hbB).trans (HCC.out i (by rw [← Hn.out]; omega))
                  obtain ⟨x', hx', hxN'⟩ := pos_get hP.out (Nat.lt_succ_self i)
                  obtain ⟨y', hy', hyN'⟩ := pos_get HX.out (Nat.lt_succ_self (i + 1))
                  have hne := pos_ne (by rw [← Hn.out]; exact hkn) HOK1.out
                  rw [hx', hy'] at hne
                  rw [hy'] at p2
                  rw [hx'] at p3
                  have hlk := lnk_of (bs := bs) hx' hy'
                  have hbad : lnkOk bs row i = false → isRowB bs row = false := fun h => isRow_lnk (by rw [← Hn.out]; omega) h
                  have hnext := lnkTo_s (bs := bs) (row := row) (k := i) hL.out
                  obtain ⟨e1, e2⟩ := fit_e3 (i := x') (j := y') H0.out (by rw [← HN.out]; exact hxN') (by rw [← HN.out]; exact hyN') (by omega)
                  have hft := fun W (hb : Below w.heap.size w W) => fit_any bs x' y' A c W ((R.out.below hb).more hb.size)
                  rw [e1, e2] at hft
                  have hfe : fitN bs x' y' = fitB (bs[x']'(by rw [← HN.out]; exact hxN')).r.2.2 (bs[y']'(by rw [← HN.out]; exact hyN')).l.2.2 := by unfold fitN bR bL; rw [List.getElem?_eq_getElem (by rw [← HN.out]; exact hxN'), List.getElem?_eq_getElem (by rw [← HN.out]; exact hyN')]
                  rw [← hfe] at hft
                  rw [hlk] at hbad hnext
                  rw [← HN.out] at hft
                  generalize fitN bs x' y' = p at hft hbad hnext
                  have HFT := hid hft
                  have HBD := hid hbad
                  have HNX := hid hnext
                  have q2 : IntKind.i64.wrap (i : Int) = (i : Int) := IntWalk.i64_in _ (by omega)
                  have q3 : (i : Int) < (n : Int) := by omega
                  have q8 : (i : Int) + 1 < (n : Int) := by omega
                  have q9 : (0 : Int) ≤ (i : Int) + 1 := by omega
                  have q10 : ((i : Int) + 1).toNat = i + 1 := by omega
                  have hbw : b < wr.heap.size := by have := hB2.out.size; omega
                  clear hft hbad hnext hlk hfe e1 e2 hx' hy' hne hk0
                  go_wp2_with fail
                  go_region_held3 (fun w' => w'.cell? ⟨b, o + i, none⟩ = some (.int .i64 x') ∧ w'.cell? ⟨b, o + (i + 1), none⟩ = some (.int .i64 y')) (first | exact ⟨p3, p2⟩ | exact ⟨e3, e2⟩)
                    (first | (go_at_call 34; refine (HFT.out _ (by first | exact hB2.out | exact hB2.out.drew | exact below_drewN hB2.out _)).mono ?_; rintro e w2 ⟨rfl, hb4⟩; have e3 := (hb4.cell (p := ⟨b, o + i, none⟩) (by simp; omega)).trans p3; have e2 := (hb4.cell (p := ⟨b, o + (i + 1), none⟩) (by simp; omega)).trans p2))
                  have HB4 := hid (hB2.out.trans ((((Below.refl _ _).drew).trans hb4).mono hB2.out.size))
                  clear hb4 p1 p2 p3 e2 e3 hbw
                  cases p with
                  | true =>
                    have HLX := hid (HNX.out rfl)
                    go_wp2_with fail
                    go_roundw
                    case rel => exact ⟨i + 1 + 1, by omega, by go_num, HX.out, HLX.out, HB4.out⟩
                    case measure => simp [intOf]; omega
                  | false =>
                    have HNO := hid (HBD.out rfl)
                    go_wp2_with fail
                    go_ret
                    exact ⟨by rw [HNO.out]; rfl, HB4.out⟩
      · obtain rfl : n = k := by omega
        have HX := hid (isRow_yes (bs := bs) (row := row) (by rw [← Hn.out, ← HN.out]) (by rw [← HN.out, ← Hn.out]; exact hP.out) (by rw [← Hn.out]; exact hL.out))
        go_wp2_with fail
        go_ret
        exact ⟨by rw [HX.out]; rfl, hB.out⟩
  · have hne : ((n : Int) != (N : Int)) = true := by simp; omega
    have HX := hid (isRow_len (bs := bs) (row := row) (by rw [← hn, ← hN]; exact hnN))
    rw [← hn, ← hN]
    clear hn hN r rr h0 hn8
    go_enter Try.func41, Try.ntmps41
    go_wp2_with fail
    go_ret
    exact ⟨by rw [HX.out]; rfl, Below.refl _ _⟩
end Go.Proofs.Ytoljnbbhoeloeaa

/- THE PLAIN LAW OF CopiesRows: the rows that are listed are the rows, in order. -/
namespace Go.Proofs.Ytoljnbbhoeloeaa
open Go.RowKit
/-- A world in which all below n₀ is as it was. -/
structure BW (n0 : Nat) (w : World) where
  val : World
  ok : Below n0 w val
instance (n0 : Nat) (w : World) : Nonempty (BW n0 w) := ⟨⟨w, Below.refl _ _⟩⟩
/-- A region that draws its order, and whose operations and callees leave all below n₀ as it was: one walk, in the order of the text. -/
theorem region_below {P : Program} {l : List Oper} {id n0 : Nat} {wb w : World} {Q : Exit → Act → World → Prop} {a : Act} (hm : P.follows .mixedOrders = true) (hB : Region.lexB .any l.toArray = true) (hb : Below n0 wb w)
    (h : wpQuiet P l.toArray (fun w' => ∃ z : BW n0 wb, w' = z.val) (fun a' => ∀ w', (∃ z : BW n0 wb, w' = z.val) → Q .normal a' w') l a) : (Code.region id l.toArray true).wp P Q a w :=
  wp_region_quiet hm hB ⟨⟨w.drew, hb.drew⟩, rfl⟩ h
def stepOk (fit : Nat → Nat → Bool) (N : Nat) (x : List Nat) (i : Nat) : Prop := x.getD i 0 < N ∧ okNx fit (x.take i) (x.getD i 0) = true
theorem take_s {x : List Nat} {i : Nat} (h : i < x.length) : x.take (i + 1) = x.take i ++ [x.getD i 0] := by
  rw [List.take_add_one, List.getElem?_eq_getElem h, Option.toList_some, List.getD, List.getElem?_eq_getElem h]
  rfl
theorem mem_prm {fit : Nat → Nat → Bool} {N : Nat} : ∀ (f : Nat) (l x : List Nat), x ∈ prm fit N f l ↔ x.length = l.length + f ∧ x.take l.length = l ∧ ∀ i, l.length ≤ i → i < x.length → stepOk fit N x i
  | 0, l, x => by
    rw [prm, List.mem_singleton]
    constructor
    · rintro rfl
      exact ⟨rfl, List.take_length, fun i h1 h2 => by omega⟩
    · rintro ⟨h1, h2, _⟩
      rwa [List.take_of_length_le (by omega)] at h2
  | f + 1, l, x => by
    rw [prm, List.mem_flatMap]
    constructor
    · rintro ⟨b, hb, h⟩
      split at h
      · rename_i hok
        obtain ⟨h1, h2, h3⟩ := (mem_prm f (l ++ [b]) x).1 h
        rw [List.length_append, List.length_singleton] at h1 h2 h3
        have hlt : l.length < x.length := by omega
        rw [take_s hlt] at h2
        have h4 := List.append_inj h2 (by simp; omega)
        have h5 : x.getD l.length 0 = b := by simpa using h4.2
        refine ⟨by omega, h4.1, fun i hi1 hi2 => ?_⟩
        by_cases hi : i = l.length
        · subst hi
          refine ⟨by rw [h5]; exact List.mem_range.1 hb, ?_⟩
          rw [h4.1, h5]
          exact hok
        · exact h3 i (by omega) hi2
      · cases h
    · rintro ⟨h1, h2, h3⟩
      have hlt : l.length < x.length := by omega
      obtain ⟨s1, s2⟩ := h3 l.length (Nat.le_refl _) hlt
      rw [h2] at s2
      refine ⟨x.getD l.length 0, List.mem_range.2 s1, ?_⟩
      rw [if_pos s2]
      refine (mem_prm f _ x).2 ⟨by simp; omega, ?_, fun i hi1 hi2 => h3 i (by simp at hi1; omega) hi2⟩
      rw [List.length_append, List.length_singleton, take_s hlt, h2]
theorem nth_nz {x : List Nat} {i : Nat} (h : i < x.length) : nth (nz x) i = (x.getD i 0 : Int) := by
  unfold nth nz
  simp [List.getD, h]
theorem nz_take {x : List Nat} {i : Nat} : (nz x).take i = nz (x.take i) := by unfold nz; rw [List.map_take]
theorem nz_contains {l : List Nat} {s : Nat} : (nz l).contains (s : Int) = l.contains s := by
  rw [Bool.eq_iff_iff, List.contains_iff_mem, List.contains_iff_mem]
  unfold nz
  rw [List.mem_map]
  constructor
  · rintro ⟨y, hy, e⟩
    obtain rfl : y = s := by omega
    exact hy
  · exact fun h => ⟨s, h, rfl⟩
theorem last_take {x : List Nat} {i : Nat} (h : i < x.length) : lastN (x.take (i + 1)) = x.getD i 0 := by
  unfold lastN
  rw [List.length_take, Nat.min_eq_left (by omega), Nat.add_sub_cancel, List.getD, List.getElem?_take, if_pos (by omega)]
  rfl
theorem step_iff {bs : List Bk} {N : Nat} {x : List Nat} {i : Nat} (hi : i < x.length) : stepOk (fitN bs) N x i ↔ posOk N (nz x) i = true ∧ (∀ j, i = j + 1 → lnkOk bs (nz x) j = true) := by
  unfold stepOk posOk okNx
  rw [nth_nz hi, nz_take, nz_contains]
  simp only [Bool.and_eq_true, decide_eq_true_eq, Bool.or_eq_true]
  have hl : ∀ j, i = j + 1 → lnkOk bs (nz x) j = fitN bs (x.getD j 0) (x.getD i 0) := fun j e => by
    subst e
    exact lnk_of (nth_nz (by omega)) (nth_nz hi)
  constructor
  · rintro ⟨h1, h2, h3⟩
    refine ⟨⟨by omega, h3⟩, fun j e => ?_⟩
    rw [hl j e]
    subst e
    rcases h2 with h2 | h2
    · have : (x.take (j + 1)).length = 0 := by rw [List.isEmpty_iff.1 h2]; rfl
      rw [List.length_take] at this
      omega
    · rwa [last_take (by omega)] at h2
  · rintro ⟨⟨h1, h3⟩, h2⟩
    refine ⟨by omega, ?_, h3⟩
    cases i with
    | zero => left; rfl
    | succ j =>
      right
      rw [last_take (by omega), ← hl j rfl]
      exact h2 j rfl
theorem row_iff {bs : List Bk} {x : List Nat} : isRowB bs (nz x) = true ↔ x ∈ allRows bs := by
  unfold allRows
  rw [mem_prm]
  unfold isRowB
  rw [nz_len]
  simp only [Bool.and_eq_true, decide_eq_true_eq, List.length_nil, Nat.zero_add, List.take_zero, true_and]
  constructor
  · rintro ⟨⟨h1, h2⟩, h3⟩
    refine ⟨h1, fun i _ hi => (step_iff hi).2 ⟨all_get h2 hi, fun j e => all_get h3 (by omega)⟩⟩
  · rintro ⟨h1, h2⟩
    refine ⟨⟨h1, ?_⟩, ?_⟩
    · unfold posTo
      rw [List.all_eq_true]
      intro i hi
      have hi := List.mem_range.1 hi
      exact ((step_iff hi).1 (h2 i (Nat.zero_le _) hi)).1
    · unfold lnkTo
      rw [List.all_eq_true]
      intro i hi
      have hi := List.mem_range.1 hi
      exact ((step_iff (show i + 1 < x.length by omega)).1 (h2 (i + 1) (Nat.zero_le _) (by omega))).2 i rfl
theorem row_nz {bs : List Bk} {row : List Int} (h : isRowB bs row = true) : ∃ x : List Nat, row = nz x ∧ x ∈ allRows bs := by
  have hn : ∃ x : List Nat, row = nz x := by
    refine ⟨row.map Int.toNat, ?_⟩
    unfold isRowB at h
    simp only [Bool.and_eq_true] at h
    unfold nz
    rw [List.map_map]
    refine (List.ext_getElem (by simp) fun i h1 h2 => ?_)
    obtain ⟨y, hy, _⟩ := pos_get h.1.2 (k := i) (by simpa using h2)
    have e : nth row i = row[i] := by simp [nth, List.getD, h1]
    simp only [List.getElem_map, Function.comp]
    rw [← e, hy]
    rfl
  obtain ⟨x, rfl⟩ := hn
  exact ⟨x, rfl, row_iff.1 h⟩
theorem bef_app {a b : Int} {u v : List Int} (hab : a < b) : ∀ p : List Int, befB (p ++ a :: u) (p ++ b :: v) = true
  | [] => by
    rw [List.nil_append, List.nil_append, befB, if_neg (by omega)]
    exact decide_eq_true hab
  | c :: p => by
    rw [List.cons_append, List.cons_append, befB, if_pos rfl]
    exact bef_app hab p
theorem bef_asym : ∀ {a b : List Int}, befB a b = true → befB b a = false
  | [], _, h => by simp [befB] at h
  | _ :: _, [], h => by simp [befB] at h
  | a :: xs, b :: ys, h => by
    rw [befB] at h ⊢
    by_cases e : a = b
    · rw [if_pos e] at h
      rw [if_pos e.symm]
      exact bef_asym h
    · rw [if_neg e] at h
      rw [if_neg (fun e2 => e e2.symm)]
      have := of_decide_eq_true h
      exact decide_eq_false (by omega)
theorem prm_split {fit : Nat → Nat → Bool} {N f b : Nat} {l x : List Nat} (h : x ∈ prm fit N f (l ++ [b])) : nz x = nz l ++ (b : Int) :: nz (x.drop (l.length + 1)) := by
  have h2 := ((mem_prm f _ x).1 h).2.1
  rw [List.length_append, List.length_singleton] at h2
  have e : x = l ++ b :: x.drop (l.length + 1) := by
    have := (List.take_append_drop (l.length + 1) x).symm
    rw [h2] at this
    simpa using this
  have : nz x = nz (l ++ b :: x.drop (l.length + 1)) := congrArg nz e
  rw [this]
  simp [nz]
theorem prm_sorted {fit : Nat → Nat → Bool} {N : Nat} : ∀ (f : Nat) (l : List Nat), (prm fit N f l).Pairwise fun x y => befB (nz x) (nz y) = true
  | 0, l => by rw [prm]; exact List.pairwise_singleton _ _
  | f + 1, l => by
    rw [prm, List.pairwise_flatMap]
    refine ⟨fun b _ => ?_, List.pairwise_lt_range.imp fun {b1 b2} hlt x hx y hy => ?_⟩
    · split
      · exact prm_sorted f _
      · exact List.Pairwise.nil
    · split at hx
      · split at hy
        · rw [prm_split hx, prm_split hy]
          exact bef_app (by omega) _
        · cases hy
      · cases hx
/-- What is known of the rows that Join lists. -/
structure Listed (bs : List Bk) (k : Nat) (row : List Int) (es : List Ln) : Prop where
  rows : ∀ i (hi : i < es.length), isRowB bs es[i].2.2 = true
  ord : ∀ i (hi : i + 1 < es.length), befB es[i].2.2 es[i + 1].2.2 = true
  len : es.length = min (allRows bs).length k
  other : isRowB bs row = true → (∀ t ∈ es, ¬ t.2.2 = row) → es.length = k ∧ ∀ i (hi : i < es.length), befB row es[i].2.2 = false
theorem listed {bs : List Bk} {k : Nat} {row : List Int} {es : List Ln} (h : sig es = ((allRows bs).take k).map nz) : Listed bs k row es := by
  have hl : es.length = ((allRows bs).take k).length := by have := congrArg List.length h; simpa [sig] using this
  have hg : ∀ i (hi : i < es.length), ∃ h2 : i < (allRows bs).length, es[i].2.2 = nz (allRows bs)[i] := fun i hi => by
    have h2 : i < (allRows bs).length := by rw [hl, List.length_take] at hi; omega
    refine ⟨h2, ?_⟩
    have h3 : (sig es)[i]? = (((allRows bs).take k).map nz)[i]? := by rw [h]
    have h4 : i < k := by rw [hl, List.length_take] at hi; omega
    simp [sig, hi, h2, h4] at h3
    exact h3
  have hs := prm_sorted (fit := fitN bs) (N := bs.length) bs.length []
  have hs2 : ∀ i j (h1 : i < (allRows bs).length) (h2 : j < (allRows bs).length), i < j → befB (nz (allRows bs)[i]) (nz (allRows bs)[j]) = true := fun i j h1 h2 hij => List.pairwise_iff_getElem.1 hs i j h1 h2 hij
  refine ⟨fun i hi => ?_, fun i hi => ?_, by rw [hl, List.length_take, Nat.min_comm], fun hr hn => ?_⟩
  · obtain ⟨h2, e⟩ := hg i hi
    rw [e]
    exact row_iff.2 (List.getElem_mem h2)
  · obtain ⟨h2, e⟩ := hg i (by omega)
    obtain ⟨h3, e2⟩ := hg (i + 1) hi
    rw [e, e2]
    exact hs2 i (i + 1) h2 h3 (by omega)
  · obtain ⟨x, rfl, hx⟩ := row_nz hr
    obtain ⟨j, hj, rfl⟩ := List.getElem_of_mem hx
    have hje : es.length ≤ j := by
      by_cases hje : j < es.length
      · obtain ⟨_, e⟩ := hg j hje
        exact absurd e (hn _ (List.getElem_mem hje))
      · omega
    rw [List.length_take] at hl
    refine ⟨by omega, fun i hi => ?_⟩
    obtain ⟨h2, e⟩ := hg i hi
    rw [e]
    exact bef_asym (hs2 i j h2 hj (by omega))
/-- Whether a row is among the first ones that are listed. -/
def lsB (es : List Ln) (row : List Int) (i : Nat) : Bool := (es.take i).any fun t => decide (t.2.2 = row)
theorem lsB_0 {es : List Ln} {row : List Int} : lsB es row 0 = false := rfl
theorem lsB_s {es : List Ln} {row : List Int} {i : Nat} (hi : i < es.length) : lsB es row (i + 1) = (lsB es row i || decide (es[i].2.2 = row)) := by
  unfold lsB
  rw [List.take_add_one, List.getElem?_eq_getElem hi, Option.toList_some, List.any_append]
  simp
theorem lsB_no {es : List Ln} {row : List Int} (h : lsB es row es.length = false) : ∀ t ∈ es, ¬ t.2.2 = row := by
  unfold lsB at h
  rw [List.take_length, List.any_eq_false] at h
  intro t ht e
  exact h t ht (decide_eq_true e)
end Go.Proofs.Ytoljnbbhoeloeaa

/- WALK: the law CopiesRows. -/
namespace Go.Proofs.Ytoljnbbhoeloeaa
open Go.RowKit
theorem je_cases {bs : List Bk} {k : Int} (h0 : blksErr bs = 0) (hk : 1 ≤ k ∧ k ≤ 64) : (joinErr bs k = 0 ∨ joinErr bs k = 82) ∧ joinRows bs k = (allRows bs).take k.toNat := by
  by_cases h3 : allRows bs = []
  · obtain ⟨e1, e2⟩ := join_e3 h0 hk h3
    exact ⟨.inr e1, by rw [e2, h3, List.take_nil]⟩
  · obtain ⟨e1, e2⟩ := join_e4 h0 hk h3
    exact ⟨.inl e1, e2⟩
/-- A contract, in the class of worlds in which all below n₀ is as it was. -/
theorem below_class {P : Program} {f n0 : Nat} {args : Array Value} {wb : World} {v : Value} (hn : n0 ≤ wb.heap.size) (h : ∀ z : BW n0 wb, Calls P f args z.val fun e w' => e = .returned v ∧ Below z.val.heap.size z.val w') (z : BW n0 wb) : Calls P f args z.val fun e w' => e = .returned v ∧ ∃ z' : BW n0 wb, w' = z'.val :=
  (h z).mono fun _ w' ⟨he, hb⟩ => ⟨he, ⟨w', z.ok.trans (hb.mono (Nat.le_trans hn z.ok.size))⟩, rfl⟩
theorem drew_class {P : Program} {f n0 : Nat} {args : Array Value} {wb : World} {v : Value} (h : ∀ z : BW n0 wb, Calls P f args z.val fun e w' => e = .returned v ∧ ∃ n, w' = z.val.drewN n) (z : BW n0 wb) : Calls P f args z.val fun e w' => e = .returned v ∧ ∃ z' : BW n0 wb, w' = z'.val :=
  (h z).mono fun _ _ ⟨he, n, hn⟩ => ⟨he, ⟨_, below_drewN z.ok n⟩, hn⟩
set_option maxRecDepth 100000 in
set_option maxHeartbeats 4000000 in
theorem rows_law (bs : List Bk) (k : Int) (row : List Int) (A Ar : Option Addr) (c cr : Nat) (w : World) (r : Bks w w.heap.size A bs) (rr : Rd w w.heap.size Ar row) :
    Calls Try.prog 14 #[.slice A bs.length c, .int .i64 k, .slice Ar row.length cr] w fun e w' => e = .returned (.bool true) ∧ Below w.heap.size w w' := by
  have R := fun W (hb : Below w.heap.size w W) => (r.below hb).more hb.size
  have RR := fun W (hb : Below w.heap.size w W) => (rr.below hb).more hb.size
  have J1 := hid fun W hb => join_any bs k A c W (R W hb)
  have C2 := hid fun W hb => ref_checkBlocks_any bs A c W (R W hb)
  have N1 := hid fun W hb => count_any bs A c W (R W hb)
  have fin : Hid (∀ W W', Below w.heap.size w W → Below W.heap.size W W' → Below w.heap.size w W') := fun W W' h h' => h.trans (h'.mono h.size)
  have H0 : Hid (Below w.heap.size w w) := Below.refl _ _
  unfold JoinIs at J1
  by_cases h0 : blksErr bs = 0
  · have IR1 := hid fun W hb => isRow_any bs h0 row A Ar c cr W (R W hb) (RR W hb)
    have IR2 := hid fun W hb (t : Ln) (h : Rd W W.heap.size t.1 t.2.2) => isRow_any bs h0 t.2.2 A t.1 c t.2.1 W (R W hb) h
    by_cases hk : 1 ≤ k ∧ k ≤ 64
    · obtain ⟨hje, hjr⟩ := je_cases h0 hk
      have hcn : cntRows bs = (allRows bs).length := if_pos h0
      rw [hcn] at N1
      rw [h0] at C2 N1
      obtain ⟨kk, rfl⟩ : ∃ kk : Nat, k = kk := ⟨k.toNat, by omega⟩
      have HLS := hid fun (es : List Ln) (h : sig es = ((allRows bs).take kk).map nz) => listed (row := row) h
      have HSM := hid fun (es : List Ln) h => join_small (bs := bs) (k := (kk : Int)) (es := es) h
      rw [hjr] at J1 HSM
      rw [show (kk : Int).toNat = kk from by simp] at J1 HSM
      have HRR := hid RR
      obtain ⟨m0, hm0⟩ : ∃ m0, m0 = (allRows bs).length := ⟨_, rfl⟩
      rw [← hm0] at N1
      have HM0 := hid hm0
      generalize joinErr bs (kk : Int) = je at J1 hje
      generalize hN : bs.length = N at *
      obtain ⟨n, hn⟩ : ∃ n, n = row.length := ⟨_, rfl⟩
      rw [← hn] at IR1 ⊢
      have Hn := hid hn
      clear R RR r rr hcn hjr hN hm0 hn h0
      by_cases h100 : n ≤ 100
      · have hd : decide ((100 : Int) < (n : Int)) = false := decide_eq_false (by omega)
        rcases hje with rfl | rfl
        all_goals
          go_enter Try.func14, Try.ntmps14
          go_wp2_with (first | (go_at_call 40; refine (J1.out _ H0.out).mono ?_; rintro e w1 ⟨A1, c1, es, rfl, l1, s1, b1⟩; have H1 := hid (fin.out _ _ H0.out b1); have L1 := hid l1; have LS := hid (HLS.out es s1); have SM := hid (HSM.out es s1); clear b1 l1 s1 J1 HLS HSM) | (go_at_call 33; refine (C2.out _ H1.out).mono ?_; rintro e w2 ⟨rfl, b2⟩; have B2 := hid b2; have H2 := hid (fin.out _ _ H1.out b2); clear b2 C2))
          refine (N1.out _ H2.out).mono ?_
          rintro e w3 ⟨rfl, b3⟩
          have B3 := hid (B2.out.trans (b3.mono B2.out.size))
          have H3 := hid (fin.out _ _ H2.out b3)
          clear b3 N1 H0
          obtain ⟨el, hel⟩ : ∃ el, el = es.length := ⟨_, rfl⟩
          rw [← hel]
          have HEL := hid hel
          have hmin := LS.out.len
          rw [← hel, ← HM0.out] at hmin
          have e1 : decide ((kk : Int) < (el : Int)) = false := decide_eq_false (by omega)
          have e2 : min (m0 : Int) (kk : Int) = (el : Int) := by omega
          have hel6 : el ≤ 1000000 := by have := SM.out.1; omega
          clear hel hmin
          go_wp2_with (first | (go_at_call 41; refine (IR1.out _ H3.out).mono ?_; rintro e w4 ⟨rfl, b4⟩; have B4 := hid (B3.out.trans (b4.mono B3.out.size)); have H4 := hid (fin.out _ _ H3.out b4); clear b4 IR1))
          go_loopw [12, 13] (fun lv iv wr => ∃ i : Nat, i ≤ el ∧ iv = .int .i64 i ∧ lv = .bool (lsB es row i) ∧ Hid (Below w1.heap.size w1 wr)) (fun _ i _ => el - (intOf i).toNat)
          case atStart => exact ⟨0, by omega, rfl, rfl, B4.out⟩
          case round =>
            obtain ⟨i, hi, rfl, rfl, hB⟩ := hrel
            by_cases hie : i < el
            · have hie' : i < es.length := by rw [← HEL.out]; exact hie
              obtain ⟨bl, ol, rfl, hbl, hcl⟩ := L1.out.at (by omega)
              have p1 := fun z : BW w1.heap.size w1 => (z.ok.cell (p := ⟨bl, ol + i, none⟩) hbl).trans (hcl i hie')
              have hri := L1.out.ln _ (List.getElem_mem hie')
              have hlen := SM.out.2 _ (List.getElem_mem hie')
              have hls := lsB_s (row := row) hie'
              have hir := fun z : BW w1.heap.size w1 => IR2.out z.val (fin.out _ _ H1.out z.ok) es[i] ((hri.below z.ok).more z.ok.size)
              rw [LS.out.rows i hie'] at hir
              have hsi := fun W (hb : Below w1.heap.size w1 W) => same_any es[i].2.2 row es[i].1 Ar es[i].2.1 cr (by omega) W W.heap.size ((hri.below hb).more hb.size) (HRR.out W (fin.out _ _ H1.out hb))
              rw [← Hn.out] at hsi
              have hblw : bl < wr.heap.size := by have := hB.out.size; omega
              have hsw := hB.out.size
              obtain ⟨lb, hlb⟩ : ∃ lb, lb = lsB es row i := ⟨_, rfl⟩
              rw [← hlb] at hls ⊢
              by_cases hi0 : i = 0
              · have d3 : decide (0 < i) = false := decide_eq_false (by omega)
                have d4 : ¬ 0 < i := by omega
                have q3 : (i : Int) < (el : Int) := by omega
                generalize es[i] = t at p1 hri hlen hls hir hsi
                obtain ⟨ta, tc, tl⟩ := t
                simp only [] at p1 hri hlen hls hir hsi
                generalize decide (tl = row) = dd at hls hsi
                generalize tl.length = nt at p1 hir hsi
                have HLB := hid hls; have HIR := hid (below_class (Nat.le_refl _) hir); have HSI := hid hsi
                clear hls hir hsi hri hlen hcl hlb hi0 hie'
                go_wp2_with fail
                refine region_below (by kernel_rfl) (by kernel_rfl) hB.out ?_
                repeat (go_big_quiet_step ((go_at_call 41; go_must (exact HIR.out _))))
                refine wpQuiet_nil ?_
                intro _ hw'
                obtain ⟨z, rfl⟩ := hw'
                have HB5 := hid z.ok
                have p5 := p1 z
                obtain ⟨w5, hw5⟩ : ∃ w5, w5 = z.val := ⟨_, rfl⟩
                rw [← hw5] at HB5 p5 ⊢
                clear p1 hw5 z
                cases lb with
                | true =>
                  go_wp2_with fail
                  go_roundw
                  case rel => exact ⟨i + 1, by omega, by go_num, by rw [HLB.out]; rfl, HB5.out⟩
                  case measure => simp [intOf]; omega
                | false =>
                  go_wp2_with (first | (go_at_call 19; refine (HSI.out _ HB5.out).mono ?_; rintro e w6 ⟨rfl, q6, rfl⟩; have HB6 := hid (below_drewN HB5.out q6)))
                  go_roundw
                  case rel => exact ⟨i + 1, by omega, by go_num, by rw [HLB.out]; rfl, HB6.out⟩
                  case measure => simp [intOf]; omega
              · obtain ⟨j, rfl⟩ : ∃ j, i = j + 1 := ⟨i - 1, by omega⟩
                have hje' : j < es.length := by omega
                have d3 : decide ((0 : Int) < ((j : Int) + 1)) = true := decide_eq_true (by omega)
                have p2 := fun z : BW w1.heap.size w1 => (z.ok.cell (p := ⟨bl, ol + j, none⟩) hbl).trans (hcl j hje')
                have hrj := L1.out.ln _ (List.getElem_mem hje')
                have hlj := SM.out.2 _ (List.getElem_mem hje')
                have hbf := fun z : BW w1.heap.size w1 => before_any es[j].2.2 es[j + 1].2.2 es[j].1 es[j + 1].1 es[j].2.1 es[j + 1].2.1 hlj z.val z.val.heap.size ((hrj.below z.ok).more z.ok.size) ((hri.below z.ok).more z.ok.size)
                rw [LS.out.ord j hie'] at hbf
                generalize es[j + 1] = t at p1 hri hlen hls hir hsi hbf
                generalize es[j] = s at p2 hrj hlj hbf
                obtain ⟨ta, tc, tl⟩ := t
                obtain ⟨sa, sc, sl⟩ := s
                simp only [] at p1 p2 hri hrj hlen hlj hls hir hsi hbf
                generalize decide (tl = row) = dd at hls hsi
                generalize tl.length = nt at p1 hir hsi hbf
                generalize sl.length = ns at p2 hbf
                have HLB := hid hls; have HIR := hid (below_class (Nat.le_refl _) hir); have HSI := hid hsi; have HBF := hid (drew_class hbf)
                have q2 : IntKind.i64.wrap (j : Int) = (j : Int) := IntWalk.i64_in _ (by omega)
                have q3 : (j : Int) < (el : Int) := by omega
                have q8 : (j : Int) + 1 < (el : Int) := by omega
                have q9 : (0 : Int) ≤ (j : Int) + 1 := by omega
                have q10 : ((j : Int) + 1).toNat = j + 1 := by omega
                clear hls hir hsi hbf hri hrj hlen hlj hcl hlb hi0 hie' hje'
                go_wp2_with fail
                refine region_below (by kernel_rfl) (by kernel_rfl) hB.out ?_
                repeat (go_big_quiet_step (first | (go_at_call 41; go_must (exact HIR.out _)) | (go_at_call 42; go_must (exact HBF.out _))))
                refine wpQuiet_nil ?_
                intro _ hw'
                obtain ⟨z, rfl⟩ := hw'
                have HB5 := hid z.ok
                have p5 := p1 z
                obtain ⟨w5, hw5⟩ : ∃ w5, w5 = z.val := ⟨_, rfl⟩
                rw [← hw5] at HB5 p5 ⊢
                clear p1 p2 hw5 z
                cases lb with
                | true =>
                  go_wp2_with fail
                  go_roundw
                  case rel => exact ⟨j + 1 + 1, by omega, by go_num, by rw [HLB.out]; rfl, HB5.out⟩
                  case measure => simp [intOf]; omega
                | false =>
                  go_wp2_with (first | (go_at_call 19; refine (HSI.out _ HB5.out).mono ?_; rintro e w6 ⟨rfl, q6, rfl⟩; have HB6 := hid (below_drewN HB5.out q6)))
                  go_roundw
                  case rel => exact ⟨j + 1 + 1, by omega, by go_num, by rw [HLB.out]; rfl, HB6.out⟩
                  case measure => simp [intOf]; omega
            · obtain rfl : el = i := by omega
              have WK : Hid (∀ W, Below w1.heap.size w1 W → Calls Try.prog 20 #[] W fun e w' => e = .returned (.bool true) ∧ Below w.heap.size w w') := fun W hb => (works_any W).mono fun e w' h => ⟨h.1, fin.out _ _ (fin.out _ _ H1.out hb) h.2⟩
              cases how : isRowB bs row with
              | false =>
                clear how
                go_wp2_with fail
                refine (WK.out _ hB.out).mono ?_
                rintro e w7 ⟨rfl, hb7⟩
                have H7 := hid hb7
                clear hb7
                go_wp2_with fail
                go_ret
                exact ⟨rfl, H7.out⟩
              | true =>
                cases hls : lsB es row el with
                | true =>
                  clear how hls
                  go_wp2_with fail
                  refine (WK.out _ hB.out).mono ?_
                  rintro e w7 ⟨rfl, hb7⟩
                  have H7 := hid hb7
                  clear hb7
                  go_wp2_with fail
                  go_ret
                  exact ⟨rfl, H7.out⟩
                | false =>
                  obtain ⟨hlen, hbe⟩ := LS.out.other how (lsB_no (by rw [← HEL.out]; exact hls))
                  rw [← HEL.out] at hlen
                  obtain ⟨m, hm⟩ : ∃ m, el = m + 1 := ⟨el - 1, by omega⟩
                  have hme : m < es.length := by rw [← HEL.out]; omega
                  obtain ⟨bl, ol, rfl, hbl, hcl⟩ := L1.out.at (by omega)
                  have p1 := (hB.out.cell (p := ⟨bl, ol + m, none⟩) hbl).trans (hcl m hme)
                  have hri := L1.out.ln _ (List.getElem_mem hme)
                  have hbf := fun W (hb : Below w1.heap.size w1 W) => before_any row es[m].2.2 Ar es[m].1 cr es[m].2.1 (by rw [← Hn.out]; omega) W W.heap.size (HRR.out W (fin.out _ _ H1.out hb)) ((hri.below hb).more hb.size)
                  rw [hbe m hme, ← Hn.out] at hbf
                  generalize es[m] = t at p1 hri hbf
                  obtain ⟨ta, tc, tl⟩ := t
                  simp only [] at p1 hri hbf
                  generalize tl.length = nt at p1 hbf
                  have HBF := hid hbf
                  have d5 : decide (el < kk) = false := decide_eq_false (by omega)
                  have d6 : ¬ el < kk := by omega
                  have q1 : IntKind.i64.wrap ((el : Int) - 1) = (el : Int) - 1 := IntWalk.i64_in _ (by omega)
                  have q2 : (0 : Int) ≤ (el : Int) - 1 := by omega
                  have q3 : (el : Int) - 1 < (el : Int) := by omega
                  have q4 : ((el : Int) - 1).toNat = m := by omega
                  have q5 : (1 : Int) ≤ (el : Int) := by omega
                  have q6 : 1 ≤ el := by omega
                  have q7 : 0 < el := by omega
                  clear hbf hri hcl hm hme hbe hlen how hls
                  go_wp2_with (first | (go_at_call 42; refine (HBF.out _ hB.out).mono ?_; rintro e w6 ⟨rfl, q6', rfl⟩; have HB6 := hid (below_drewN hB.out q6')))
                  refine (WK.out _ HB6.out).mono ?_
                  rintro e w7 ⟨rfl, hb7⟩
                  have H7 := hid hb7
                  clear hb7
                  go_wp2_with fail
                  go_ret
                  exact ⟨rfl, H7.out⟩
      · have hd : decide ((100 : Int) < (n : Int)) = true := decide_eq_true (by omega)
        clear h100
        rcases hje with rfl | rfl
        all_goals
          go_enter Try.func14, Try.ntmps14
          go_wp2_with (first | (go_at_call 40; refine (J1.out _ H0.out).mono ?_; rintro e w1 ⟨A1, c1, es, rfl, l1, s1, b1⟩; have H1 := hid (fin.out _ _ H0.out b1); clear b1 l1 s1 J1) | (go_at_call 33; refine (C2.out _ H1.out).mono ?_; rintro e w2 ⟨rfl, b2⟩; have H2 := hid (fin.out _ _ H1.out b2); clear b2 C2))
          refine (works_any _).mono ?_
          rintro e w7 ⟨rfl, hb7⟩
          have H7 := hid (fin.out _ _ H2.out hb7)
          clear hb7
          go_wp2_with fail
          go_ret
          exact ⟨rfl, H7.out⟩
    · obtain ⟨e1, _⟩ := join_e2 h0 hk
      rw [e1] at J1
      rw [h0] at C2
      generalize hN : bs.length = N at *
      generalize hn : row.length = n at *
      clear R RR r rr hN hn h0 e1 hk IR1 IR2
      go_enter Try.func14, Try.ntmps14
      go_wp2_with (first | (go_at_call 40; refine (J1.out _ H0.out).mono ?_; rintro e w1 ⟨A1, c1, es, rfl, l1, s1, b1⟩; have H1 := hid (fin.out _ _ H0.out b1); clear b1 l1 s1 J1) | (go_at_call 33; refine (C2.out _ H1.out).mono ?_; rintro e w2 ⟨rfl, b2⟩; have H2 := hid (fin.out _ _ H1.out b2); clear b2 C2))
      refine (works_any _).mono ?_
      rintro e w7 ⟨rfl, hb7⟩
      have H7 := hid (fin.out _ _ H2.out hb7)
      clear hb7
      go_wp2_with fail
      go_ret
      exact ⟨rfl, H7.out⟩
  · obtain ⟨e1, _⟩ := join_e1 (k := k) h0
    rw [e1] at J1
    generalize blksErr bs = e0 at *
    generalize hN : bs.length = N at *
    generalize hn : row.length = n at *
    clear R RR r rr hN hn e1
    have hne : (e0 != 0) = true := by simp [h0]
    go_enter Try.func14, Try.ntmps14
    go_wp2_with (first | (go_at_call 40; refine (J1.out _ H0.out).mono ?_; rintro e w1 ⟨A1, c1, es, rfl, l1, s1, b1⟩; have H1 := hid (fin.out _ _ H0.out b1); clear b1 l1 s1 J1) | (go_at_call 33; refine (C2.out _ H1.out).mono ?_; rintro e w2 ⟨rfl, b2⟩; have H2 := hid (fin.out _ _ H1.out b2); clear b2 C2) | (go_at_call 20; refine (works_any _).mono ?_; rintro e w7 ⟨rfl, hb7⟩; have H7 := hid (fin.out _ _ H2.out hb7); clear hb7))
    go_ret
    exact ⟨rfl, H7.out⟩
end Go.Proofs.Ytoljnbbhoeloeaa
