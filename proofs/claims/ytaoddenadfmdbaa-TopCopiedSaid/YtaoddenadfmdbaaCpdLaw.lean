/- PROVED: ostracontop.TopCopied returns true for every list, cells and parallel, and what it is given reads as before. Conditions: none. The walk of the law, and the theorem. -/
import Derived.Test.YtaoddenadfmdbaaCpdL
import Derived.Test.YtaoddenadfmdbaaAlignW
import Derived.Test.YtaoddenadfmdbaaRsvW
import Derived.Test.YtaoddenadfmdbaaMirA
import Derived.Test.YtaoddenadfmdbaaRowK
namespace Go.Proofs.Ytaoddenadfmdbaa
open Go.RowKit
theorem bnx {w W W' : World} (h : Below w.heap.size w W) (h' : Below W.heap.size W W') : Below w.heap.size w W' := h.trans (h'.mono h.size)
/-- A box with a list. -/
def LsB (W : World) (b : Nat) (P : Int) (v : Value) : Prop := W.heap[b]? = some (.cells #[.int .i64 P, v] 24 (0, 0))
theorem LsB.cells {W : World} {b : Nat} {P : Int} {v : Value} (h : LsB W b P v) : W.cell? ⟨b, 0, none⟩ = some (.int .i64 P) ∧ W.cell? ⟨b, 1, none⟩ = some v := by
  unfold LsB at h
  constructor <;> simp [World.cell?, h]
theorem LsB.below {W W' : World} {b : Nat} {P : Int} {v : Value} (h : LsB W b P v) (hb : Below W.heap.size W W') : LsB W' b P v := (hb.block _ (lt_of_block h)).trans h
theorem al {W : World} (o : Obj) : Below W.heap.size W (W.alloc o) := (Below.refl _ _).alloc (Nat.le_refl _) _
set_option maxRecDepth 100000 in
set_option maxHeartbeats 8000000 in
theorem copied_law (P : Int) (ss : List Sg) (cs : List Cl) (par : List Int) (A A2 A3 : Option Addr) (c c2 c3 : Nat) (hv : ∀ s ∈ ss, s.vals.length ≤ 9223372036854775807) (hcl : cs.length ≤ 9223372036854775807) (hcs : ∀ c ∈ cs, c.signs.length ≤ 9223372036854775807) (hpl : par.length ≤ 9223372036854775807) (hnil : A3 = none → c3 = 0) (hcap : par.length ≤ c3) (w : World) (rs : Sgs w w.heap.size A ss) (rc : Cls w w.heap.size A2 cs) (rp : Rd w w.heap.size A3 par) :
    Calls Try.prog 3 #[.agg #[.int .i64 P, .slice A ss.length c], .slice A2 cs.length c2, .slice A3 par.length c3] w fun e w' => e = .returned (.bool true) ∧ Below w.heap.size w w' := by
  obtain ⟨w1, hw1⟩ : ∃ W, W = w.alloc (.cells #[.int .i64 P, .slice A ss.length c] 24) := ⟨_, rfl⟩
  obtain ⟨B0, hB0⟩ : ∃ b, b = w.heap.size := ⟨_, rfl⟩
  have hb1 : Below w.heap.size w w1 := by rw [hw1]; exact al _
  have H0 := hid (show LsB w1 B0 P (.slice A ss.length c) by rw [hw1, hB0]; exact nwB rfl)
  have hrs1 : Sgs w1 w1.heap.size A ss := (rs.below hb1).more hb1.size
  have HSM := hid (smallT_any P ss A c w1 fun h12 => refListCheck_any P ss (by omega) hv A c _ ((hrs1.below (al _)).more (by simp)))
  have HRV := hid fun (W : World) => restores_any W
  have HRS := hid rs; have HRC := hid rc; have HRP := hid rp
  have HB1 := hid hb1; have HW1 := hid hw1; have HX0 := hid hB0
  have HNIL := hid hnil; have HCAP := hid hcap
  clear rs rc rp hrs1 hb1 hw1 hB0 hnil hcap
  obtain ⟨nc, hnc⟩ : ∃ k, k = cs.length := ⟨_, rfl⟩
  obtain ⟨m, hm⟩ : ∃ k, k = par.length := ⟨_, rfl⟩
  rw [← hnc] at hcl ⊢
  rw [← hm] at hpl ⊢
  have HNC := hid hnc; have HM := hid hm; have HCS := hid hcs
  clear hnc hm hv hcs
  go_enter Try.func3, Try.ntmps3
  go_upto_region 1 with (fail)
  rw [← HW1.out, ← HX0.out]
  clear HW1
  obtain ⟨p0, p1⟩ := H0.out.cells
  obtain ⟨sm, hsm⟩ : ∃ b, b = decide (ss.length ≤ 12 ∧ listE P ss = 0) := ⟨_, rfl⟩
  rw [← hsm] at HSM
  cases sm with
  | false =>
    clear hsm
    go_wp2_with (first | (go_at_call 4; refine HSM.out.mono ?_; rintro e w2 ⟨rfl, hb2⟩; have HB2 := hid (bnx HB1.out hb2); clear hb2) | (go_at_call 5; refine (HRV.out _).mono ?_; rintro e w99 ⟨rfl, hb99⟩; have HB99 := hid (bnx HB2.out hb99); clear hb99))
    go_ret
    exact ⟨rfl, HB99.out⟩
  | true =>
    obtain ⟨h12, hE⟩ := of_decide_eq_true hsm.symm
    have H12 := hid h12; have HE := hid hE
    clear hsm h12 hE
    by_cases hc8 : 8 < nc
    · have e1 : decide ((8 : Int) < (nc : Int)) = true := decide_eq_true (by omega)
      clear hc8
      go_wp2_with (first | (go_at_call 4; refine HSM.out.mono ?_; rintro e w2 ⟨rfl, hb2⟩; have HB2 := hid (bnx HB1.out hb2); clear hb2) | (go_at_call 5; refine (HRV.out _).mono ?_; rintro e w99 ⟨rfl, hb99⟩; have HB99 := hid (bnx HB2.out hb99); clear hb99))
      go_ret
      exact ⟨rfl, HB99.out⟩
    have e1 : decide ((8 : Int) < (nc : Int)) = false := decide_eq_false (by omega)
    by_cases hp14 : 14 < m
    · have e2 : decide ((14 : Int) < (m : Int)) = true := decide_eq_true (by omega)
      clear hp14 hc8
      go_wp2_with (first | (go_at_call 4; refine HSM.out.mono ?_; rintro e w2 ⟨rfl, hb2⟩; have HB2 := hid (bnx HB1.out hb2); clear hb2) | (go_at_call 5; refine (HRV.out _).mono ?_; rintro e w99 ⟨rfl, hb99⟩; have HB99 := hid (bnx HB2.out hb99); clear hb99))
      go_ret
      exact ⟨rfl, HB99.out⟩
    have e2 : decide ((14 : Int) < (m : Int)) = false := decide_eq_false (by omega)
    go_upto_region 5 with (first | (go_at_call 4; refine HSM.out.mono ?_; rintro e w2 ⟨rfl, hb2⟩; have HB2 := hid (bnx HB1.out hb2); have H2 := hid (H0.out.below hb2); clear hb2))
    clear e1 e2 p0 p1 HSM
    have H2C := hid ((HRC.out.below HB2.out).more HB2.out.size)
    go_wp2_with fail
    go_loopw [7, 8] (fun v7 iv wr => ∃ i s : Nat, i ≤ nc ∧ iv = .int .i64 (i : Int) ∧ v7 = .int .i64 (s : Int) ∧ s ≤ 9 * i ∧ Hid (s = sumM (cs.take i)) ∧ Hid (∀ j (hj : j < cs.length), j < i → 0 ≤ cs[j].mx ∧ cs[j].mx ≤ 9 ∧ cs[j].signs.length ≤ 20) ∧ wr = w2) (fun _ iv _ => nc - (intOf iv).toNat)
    case atStart => exact ⟨0, 0, by omega, rfl, rfl, by omega, hid rfl, hid fun j hj h => by omega, rfl⟩
    case round =>
      obtain ⟨i, s, hi, rfl, rfl, hs9, hS, hC, rfl⟩ := hrel
      by_cases hin : i < nc
      · have hic : i < cs.length := by rw [← HNC.out]; exact hin
        obtain ⟨bA, oA, rfl, hbA, hcla⟩ := H2C.out.at (by omega)
        have hca := hcla i hic
        have pmx := hca.mx; have psg := hca.sg
        have hsl9 := HCS.out _ (List.getElem_mem hic)
        have hst := sumM_take hic
        rw [cl_at hic] at hst
        have HOKI := hid fun (h : 0 ≤ cs[i].mx ∧ cs[i].mx ≤ 9 ∧ cs[i].signs.length ≤ 20) => (show ∀ j (hj : j < cs.length), j < i + 1 → 0 ≤ cs[j].mx ∧ cs[j].mx ≤ 9 ∧ cs[j].signs.length ≤ 20 from fun j hj h2 => by
          by_cases e : j = i
          · subst e; exact h
          · exact hC.out j hj (by omega))
        obtain ⟨mx, hmx⟩ : ∃ k, k = cs[i].mx := ⟨_, rfl⟩
        obtain ⟨sl, hsl⟩ : ∃ k, k = cs[i].signs.length := ⟨_, rfl⟩
        obtain ⟨sa, hsa⟩ : ∃ k, k = cs[i].sa := ⟨_, rfl⟩
        obtain ⟨sc, hsc⟩ : ∃ k, k = cs[i].sc := ⟨_, rfl⟩
        rw [← hmx] at pmx hst; rw [← hsl, ← hsa, ← hsc] at psg; rw [← hsl] at hsl9
        rw [← hmx, ← hsl] at HOKI
        have HST := hid hst
        have q0 : (i : Int) < (nc : Int) := by omega
        clear hca hcla hmx hsl hsa hsc hst
        by_cases h0 : mx < 0
        · have e1 : decide (mx < 0) = true := decide_eq_true h0
          clear h0
          go_wp2_with (first | (go_at_call 5; refine (HRV.out _).mono ?_; rintro e w99 ⟨rfl, hb99⟩; have HB99 := hid (bnx HB2.out hb99); clear hb99))
          go_ret
          exact ⟨rfl, HB99.out⟩
        have e1 : decide (mx < 0) = false := decide_eq_false h0
        by_cases h9 : 9 < mx
        · have e2 : decide (9 < mx) = true := decide_eq_true h9
          clear h0 h9
          go_wp2_with (first | (go_at_call 5; refine (HRV.out _).mono ?_; rintro e w99 ⟨rfl, hb99⟩; have HB99 := hid (bnx HB2.out hb99); clear hb99))
          go_ret
          exact ⟨rfl, HB99.out⟩
        have e2 : decide (9 < mx) = false := decide_eq_false h9
        by_cases h20 : 20 < sl
        · have e3 : decide ((20 : Int) < (sl : Int)) = true := decide_eq_true (by omega)
          clear h0 h9 h20
          go_wp2_with (first | (go_at_call 5; refine (HRV.out _).mono ?_; rintro e w99 ⟨rfl, hb99⟩; have HB99 := hid (bnx HB2.out hb99); clear hb99))
          go_ret
          exact ⟨rfl, HB99.out⟩
        have e3 : decide ((20 : Int) < (sl : Int)) = false := decide_eq_false (by omega)
        have HN := hid (HOKI.out ⟨by omega, by omega, by omega⟩)
        obtain ⟨mX, rfl⟩ : ∃ k : Nat, mx = (k : Int) := ⟨mx.toNat, by omega⟩
        have hmX : mX ≤ 9 := by omega
        clear h0 h9 h20 HOKI
        go_wp2_with fail
        go_roundw
        case rel => exact ⟨i + 1, s + mX, by omega, by go_num, by go_num, by omega, hid (by rw [HST.out, ← hS.out]; simp), HN, trivial⟩
        case measure => simp [intOf]; omega
      · obtain rfl : i = nc := by omega
        have q0 : decide ((i : Int) < (i : Int)) = false := by simp
        have hsS : s = sumM cs := by have h1 := hS.out; rw [HNC.out] at h1; rwa [List.take_length] at h1
        have HSU := hid hsS
        have HCM := hid (show ∀ c ∈ cs, 0 ≤ c.mx ∧ c.mx ≤ 9 ∧ c.signs.length ≤ 20 from fun c hc => by
          obtain ⟨j, hj, rfl⟩ := List.getElem_of_mem hc
          exact hC.out j hj (by rw [HNC.out]; exact hj))
        clear hsS hS hC
        by_cases hs12 : 12 < s
        · have e1 : decide ((12 : Int) < (s : Int)) = true := decide_eq_true (by omega)
          clear hs12
          go_wp2_with (first | (go_at_call 5; refine (HRV.out _).mono ?_; rintro e w99 ⟨rfl, hb99⟩; have HB99 := hid (bnx HB2.out hb99); clear hb99))
          go_ret
          exact ⟨rfl, HB99.out⟩
        have e1 : decide ((12 : Int) < (s : Int)) = false := decide_eq_false (by omega)
        obtain ⟨p0, p1⟩ := H2.out.cells
        have HCP := hid (copyList_any P ss A c (by have := H12.out; omega) (fun s hs => by have := list_vals HE.out s hs; omega) wr ((HRS.out.below HB2.out).more HB2.out.size))
        go_upto_region 13 with (first | (go_at_call 6; refine HCP.out.mono ?_; rintro e w3 ⟨A4, c4, ss3, rfl, hl3, hb3⟩; have HB3 := hid (bnx HB2.out hb3); have HM3 := hid (MCopy.of hl3 HE.out H12.out); clear hl3 hb3))
        obtain ⟨b9, hb9⟩ : ∃ b, b = w3.heap.size := ⟨_, rfl⟩
        obtain ⟨w4, hw4⟩ : ∃ W, W = w3.alloc (.cells #[.int .i64 P, .slice A4 ss3.length c4] 24) := ⟨_, rfl⟩
        have hx4 : Below w3.heap.size w3 w4 := by rw [hw4]; exact al _
        have H94 := hid (show LsB w4 b9 P (.slice A4 ss3.length c4) by rw [hw4, hb9]; exact nwB rfl)
        have HM4 := hid (HM3.out.below hx4); have HB4 := hid (bnx HB3.out hx4)
        rw [← hw4, ← hb9]
        clear hw4 hb9 hx4 HM3 HCP p0 p1 e1
        obtain ⟨p0, p1⟩ := H94.out.cells
        have HRT := hid (Restore_any P ss3 cs par HM4.out.len HM4.out.vals (by rw [← HNC.out]; omega) (fun c hc => ⟨(HCM.out c hc).1, (HCM.out c hc).2.1⟩) (by rw [← HSU.out]; omega) (fun c hc => (HCM.out c hc).2.2) (by rw [← HM.out]; omega) A4 A2 A3 c4 c2 c3 w4 HM4.out.sg ((HRC.out.below HB4.out).more HB4.out.size) ((HRP.out.below HB4.out).more HB4.out.size))
        rw [← HNC.out, ← HM.out] at HRT
        have HWE := hid (show wallE P ss3 cs par = 0 → ∀ a ∈ par, 0 ≤ a ∧ a < (ss3.length : Int) from fun h => by
          unfold wallE at h
          by_cases h1 : wcellsE P ss3 cs = 0
          · cases h2 : outB ss3.length par with
            | false => exact outB_no h2
            | true => rw [h1, h2] at h; simp at h
          · simp [h1] at h)
        obtain ⟨E, hEe⟩ : ∃ E, E = wallE P ss3 cs par := ⟨_, rfl⟩
        rw [← hEe] at HRT HWE
        clear hEe
        go_upto_region 14 with (first | (go_at_call 7; refine HRT.out.mono ?_; rintro e w5 ⟨⟨hE0, rfl⟩ | ⟨rfl, L, A5, c5, A6, n6, c6, A7, n7, c7, b0, hk, rfl, hown, hacc, hr⟩, hb5⟩))
        · have e1 : (E != 0) = true := by simp [hE0]
          have HB5 := hid (bnx HB4.out hb5)
          clear hE0 hb5 HWE
          go_wp2_with (first | (go_at_call 5; refine (HRV.out _).mono ?_; rintro e w99 ⟨rfl, hb99⟩; have HB99 := hid (bnx (bnx HB5.out (al _)) hb99); clear hb99))
          go_ret
          exact ⟨rfl, HB99.out⟩
        have HPR := hid (HWE.out trivial)
        have HB5 := hid (bnx HB4.out hb5); have HO5 := hid hown; have HAC := hid hacc; have HLR := hid hr
        clear hb5 hown hacc hr HWE HRT hk
        obtain ⟨b10, hb10⟩ : ∃ b, b = w5.heap.size := ⟨_, rfl⟩
        obtain ⟨d, hd⟩ : ∃ d, d = ED L par := ⟨_, rfl⟩
        obtain ⟨ll, hll⟩ : ∃ k, k = L.length := ⟨_, rfl⟩
        have hl12 : ll ≤ 12 := by
          have h2 := acc_len HAC.out (fun _ => Nat.zero_le _)
          rw [List.drop_zero] at h2
          have := HSU.out
          omega
        rw [← hll, ← hd]
        obtain ⟨w6, hw6⟩ : ∃ W, W = w5.alloc (.cells #[.slice A5 ll c5, .slice A6 n6 c6, .slice A7 n7 c7, .int .i64 (d : Int)] 33) := ⟨_, rfl⟩
        have hx6 : Below w5.heap.size w5 w6 := by rw [hw6]; exact al _
        have H6 := hid (show Rsb w6 b10 (.slice A5 ll c5) (.slice A6 n6 c6) (.slice A7 n7 c7) (.int .i64 (d : Int)) by rw [hw6]; exact nwB hb10)
        have HB6 := hid (bnx HB5.out hx6)
        rw [← hll] at HO5
        have HO6 := hid (own_keep HO5.out hx6)
        have HLL := hid hll; have HD := hid hd
        rw [← hw6, ← hb10]
        clear hw6 hb10 hx6 hll hd HO5 p0 p1
        have hLd : 2 * d ≤ D par L ∧ D par L ≤ 3 * d := by rw [HD.out]; exact D_ED L par
        have hle : linesErr [par, L] = 0 := lines_ok (line_ok HPR.out (by rw [← HM.out]; omega)) (line_ok HLR.out (by rw [← HLL.out]; omega))
        have HLE := hid hle
        have HAL := hid fun (W : World) (hW : Below w6.heap.size w6 W) => Align_any par L A3 A5 c3 c5 W ((HRP.out.below (bnx HB6.out hW)).more (bnx HB6.out hW).size) (own_rd (own_keep HO6.out hW) HLL.out)
        rw [← HM.out, ← HLL.out, hle, show alC par L = (D par L : Nat) from if_pos hle] at HAL
        obtain ⟨co, hco⟩ : ∃ k, k = D par L := ⟨_, rfl⟩
        rw [← hco] at HAL hLd
        obtain ⟨x0, x1, x2, x3, _⟩ := H6.out.cells
        clear hle hco
        go_upto_region 17 with (first | (go_at_call 8; refine (HAL.out _ (Below.refl _ _)).mono ?_; rintro e w7 ⟨v7, rfl, ho7, hb7⟩; obtain ⟨A8, c8, rfl⟩ := own_slice ho7; have HB7 := hid hb7; clear ho7 hb7))
        obtain ⟨x0, x1, x2, x3, _⟩ := (show Rsb w7 b10 (.slice A5 ll c5) (.slice A6 n6 c6) (.slice A7 n7 c7) (.int .i64 (d : Int)) from (HB7.out.block _ (lt_of_block H6.out)).trans H6.out).cells
        have hd30 : d ≤ 30 := by have h1 := ED_le L par; rw [← HD.out, ← HLL.out, ← HM.out] at h1; omega
        have e1 : decide ((co : Int) < 2 * (d : Int)) = false := decide_eq_false (by omega)
        have e2 : decide (3 * (d : Int) < (co : Int)) = false := decide_eq_false (by omega)
        have HO7 := hid (own_keep HO6.out HB7.out)
        have HX7 := hid (bnx HB6.out HB7.out)
        have HPA := hid (part_own (own_keep HO7.out (al (.cells #[] 3))))
        have hown : (w7.alloc (.cells #[] 3)).ownsRow w7.heap.size 3 1 (.slice (some ⟨w7.heap.size, 0, none⟩) 0 0) 0 (ints []) := own_lit w7 _ #[] (Nat.le_refl _) rfl (by decide)
        have hA7 : Below w7.heap.size w7 (w7.alloc (.cells #[] 3)) := al _
        have HOWN := hid hown; have HA7 := hid hA7
        have HVS := hid fun (A9 : Option Addr) (c9 : Nat) (W : World) (hW : Below w7.heap.size w7 W) (hr : Rd W W.heap.size A9 L) => variants_any par [(A9, c9, L)] A3 (some ⟨W.heap.size, 0, none⟩) c3 1 (by simp) (by
          rw [show sig [(A9, c9, L)] = [L] from rfl]
          show (raw par [L] 1).length < 20
          rw [one_raw]
          unfold ofCopy
          rw [List.length_map]
          have h1 := strs_few par L
          have h2 := HM.out
          omega) (W.alloc (.cells #[.slice A9 L.length c9] 26)) ((HRP.out.below (bnx (bnx HX7.out hW) (al _))).more (bnx (bnx HX7.out hW) (al _)).size) (by have := Lns.one (c := c9) 26 hr; simpa using this)
        have hve : vErr par [L] = 0 := (verr_one par L).2 HLE.out
        simp only [show ∀ (A9 : Option Addr) (c9 : Nat), sig [(A9, c9, L)] = [L] from fun _ _ => rfl, hve, List.length_cons, List.length_nil, Nat.zero_add] at HVS
        rw [← HM.out, ← HLL.out] at HVS
        have x0a := cell_old (o := .cells #[] 3) x0
        clear hown hA7 hve hLd HAL
        go_upto_region 20 with (first
          | (at_builtin; go_loud (refine app_line rfl (.tmp 117) (.tmp 119) Try.underlying26 Try.infoInt rfl (by decide) rfl w7.heap.size _ _ [] rfl HOWN.out A5 ll c5 L rfl HPA.out (by omega) (by simp) ?_); intro v9 w8 ho9 hg9; rw [Nat.zero_add, List.nil_append] at ho9; obtain ⟨A9, c9, rfl⟩ := own_slice ho9; have HB8 := hid (below_app (al (.cells #[] 3)) HOWN.out hg9 (Nat.le_refl _) (by simp)); have HR9 := hid (own_rd ho9 HLL.out); clear ho9 hg9)
          | (go_at_call 9; refine (HVS.out A9 c9 w8 HB8.out HR9.out).mono ?_; rintro e w9 ⟨v10, es, rfl, hS, hst, _, hb9⟩; obtain ⟨A10, c10, rfl⟩ := own_slice hS.own; have HB9 := hid (bnx HB8.out (bnx (al _) hb9)); have HS := hid hS; have HST := hid hst; clear hS hst hb9))
        have HXC := hid fun (W : World) (hW : Below w7.heap.size w7 W) => (show W.cell? ⟨b10, 0, none⟩ = some (.slice A5 ll c5) ∧ W.cell? ⟨b10, 3, none⟩ = some (.int .i64 (d : Int)) from ⟨cell_keep hW x0, cell_keep hW x3⟩)
        have hes : es.map dec = ofCopy par 0 L := ((by first | exact HST.out | exact HST.out trivial | exact HST.out rfl : StabL (raw par [L] 1) (es.map dec))).eq (of_sorted par L)
        have hlen : es.length = (strs par L).length := by have := congrArg List.length hes; simpa [ofCopy] using this
        obtain ⟨n, hn⟩ : ∃ n, n = es.length := ⟨_, rfl⟩
        have hn15 : n ≤ 15 := by have h1 := strs_few par L; have h2 := HM.out; omega
        have hnd : n = 0 ↔ d = 0 := by rw [hn, hlen, HD.out]; exact strs_ED par L
        rw [← hn]
        have HES := hid hes; have HLN := hid (hn.trans hlen); have HNE := hid hn; have HND := hid hnd
        have hmk : ∀ W, (Instr.makeSlice 44 (.int .i64 (n : Int)) (.int .i64 (n : Int))).run Try.prog W = .ok (.slice (some ⟨W.heap.size, 0, none⟩) n n) (W.alloc (.cells (madeCells #[.bool false] n) 4)) := fun W => by
          exact run_make_row' (P := Try.prog) 44 4 (.bool false) 1 Try.underlying44 Try.infoBool rfl .i64 .i64 n (by omega) (by omega) W
        obtain ⟨gy, hgy⟩ : ∃ g, g = w9.heap.size := ⟨_, rfl⟩
        obtain ⟨wa, hwa⟩ : ∃ W, W = w9.alloc (.cells (madeCells #[.bool false] n) 4) := ⟨_, rfl⟩
        have HRY := hid (show wa.rowIs gy 4 n (fun _ => .bool false) by rw [hwa, hgy]; exact World.rowIs_made w9 (.bool false) n 4)
        have HBA := hid (show Below w9.heap.size w9 wa by rw [hwa]; exact al _)
        have HGY := hid hgy
        clear hes hlen hn hnd HST x0 x1 x2 x3 x0a HVS HPA HOWN HA7 e1 e2
        go_upto_region 21 with (fail)
        rw [← hwa, ← hgy]
        clear hwa hgy hmk
        go_wp2_with fail
        go_loopw [18] (fun iv wr => ∃ k : Nat, k ≤ n ∧ iv = .int .i64 (k : Int) ∧ Hid (wr.rowIs gy 4 n (fun x => if x < k then .bool true else .bool false)) ∧ Hid (Below w9.heap.size w9 wr)) (fun iv _ => n - (intOf iv).toNat)
        case atStart => exact ⟨0, by omega, rfl, hid (HRY.out.congr fun x hx => by rw [if_neg (by omega)]), HBA⟩
        case round =>
          obtain ⟨k, hk, rfl, HY, HW⟩ := hrel
          by_cases hkn : k < n
          · have q0 : (k : Int) < (n : Int) := by omega
            have s1 := HY.out.cell hkn
            have s2 := HY.out.frozen k
            have HY2 := hid (show (wr.setCell ⟨gy, k, none⟩ (.bool true)).rowIs gy 4 n (fun x => if x < k + 1 then .bool true else .bool false) from (HY.out.set k _).congr fun x hx => by
              by_cases e : x = k
              · subst e; rw [if_pos (by omega)]; simp
              · rw [if_neg e]
                by_cases h1 : x < k
                · rw [if_pos h1, if_pos (by omega)]
                · rw [if_neg h1, if_neg (by omega)])
            have HW2 := hid (show Below w9.heap.size w9 (wr.setCell ⟨gy, k, none⟩ (.bool true)) from HW.out.setCell (p := ⟨gy, k, none⟩) (by rw [HGY.out]; exact Nat.le_refl _) _)
            clear HY HW
            go_wp2_with fail
            go_roundw
            case rel => exact ⟨k + 1, by omega, by go_num, HY2, HW2⟩
            case measure => simp [intOf]; omega
          · obtain rfl : k = n := by omega
            have q0 : decide ((k : Int) < (k : Int)) = false := by simp
            obtain ⟨wb, rfl⟩ : ∃ wo : World, wo = wr := ⟨_, rfl⟩
            have HB0 := hid (show Below w7.heap.size w7 wb from bnx HB9.out HW.out)
            have HRB := hid (rb_row (l := List.replicate k true) HY.out (by simp) (fun x hx => by rw [if_pos (by simpa using hx)]; simp))
            have HRL := hid fun (W : World) (hW : Below wb.heap.size wb W) => (show Rd W W.heap.size A5 L from own_rd (own_keep HO7.out (bnx HB0.out hW)) HLL.out)
            have HRPW := hid fun (W : World) (hW : Below wb.heap.size wb W) => (show Rd W W.heap.size A3 par from (HRP.out.below (bnx HX7.out (bnx HB0.out hW))).more (bnx HX7.out (bnx HB0.out hW)).size)
            have hapv : apV par L (List.replicate k true) = (L, 0) := by
              unfold apV
              rw [if_pos HLE.out, if_pos (by rw [List.length_replicate]; exact HLN.out)]
              have h1 := ap_all par L
              rw [← HLN.out] at h1
              rw [h1]
            have HAP := hid (apply_any par L (List.replicate k true) A3 A5 (some ⟨gy, 0, none⟩) c3 c5 k HNIL.out HCAP.out wb (HRPW.out wb (Below.refl _ _)) (HRL.out wb (Below.refl _ _)) HRB.out)
            rw [hapv, List.length_replicate] at HAP
            rw [← HM.out, ← HLL.out] at HAP
            obtain ⟨y0, y3⟩ := HXC.out wb HB0.out
            clear hapv
            go_upto_region 26 with (first | (go_at_call 10; refine HAP.out.mono ?_; rintro e wc ⟨v11, rfl, ho11, hb11⟩; obtain ⟨A11, c11, rfl⟩ := own_slice ho11; have HBC := hid hb11; have HO11 := hid ho11; clear ho11 hb11))
            have HXD := hid (bnx HB0.out HBC.out)
            obtain ⟨y0, y3⟩ := HXC.out wc HXD.out
            have HSI := hid (sameInts_self L A11 A5 c11 c5 (by rw [← HLL.out]; omega) wc (own_rd HO11.out HLL.out) (HRL.out wc HBC.out))
            rw [← HLL.out] at HSI
            have hb : ((k : Int) == 0) = ((d : Int) == 0) := by
              have h1 := HND.out
              by_cases e : k = 0
              · rw [e, h1.1 e]
              · have e2 : ¬ d = 0 := fun h => e (h1.2 h)
                rw [show ((k : Int) == 0) = false from beq_eq_false_iff_ne.2 (by omega), show ((d : Int) == 0) = false from beq_eq_false_iff_ne.2 (by omega)]
            obtain ⟨bz, hbz⟩ : ∃ b, b = ((d : Int) == 0) := ⟨_, rfl⟩
            rw [← hbz] at hb
            have hbz2 := hbz.symm
            have hbb : (bz != bz) = false := by simp
            clear hbz
            go_upto_region 28 with (first | (go_at_call 11; refine HSI.out.mono ?_; rintro e wd ⟨rfl, qd, hwd⟩; have HBD := hid (show Below wc.heap.size wc wd by rw [hwd]; exact below_drewN (Below.refl _ _) _); obtain ⟨y0, y3⟩ := HXC.out wd (bnx HXD.out HBD.out); clear hwd))
            have HW9D := hid (bnx (bnx HW.out HBC.out) HBD.out)
            have HX7D := hid (bnx HXD.out HBD.out)
            have HSB := hid fun (q : Nat) => (show -200000 ≤ sumD ((strs par L).take q) ∧ sumD ((strs par L).take q) ≤ 200000 from by
              have h1 := sumD_bd (B := 100) ((strs par L).take q) fun x hx => by
                have hx := List.mem_of_mem_take hx
                have h2 := strs_end par L x hx
                have h3 := strs_sg' par L x hx
                have := HM.out; have := HLL.out
                omega
              have h2 : ((strs par L).take q).length ≤ 15 := by rw [List.length_take, ← HLN.out]; omega
              have h3 : 100 * ((strs par L).take q).length ≤ 1500 := by omega
              omega)
            clear HB0 HBC HBD HXD HRB HAP HSI HY HO11 y0 y3 hb hbb HND
            go_wp2_with fail
            go_loopw [21, 22] (fun v21 iv wr => ∃ q : Nat, q ≤ k ∧ iv = .int .i64 (q : Int) ∧ v21 = .int .i64 (sumD ((strs par L).take q)) ∧ Hid (Below wd.heap.size wd wr)) (fun _ iv _ => k - (intOf iv).toNat)
            case atStart => exact ⟨0, by omega, rfl, by simp [sumD], hid (Below.refl _ _)⟩
            case round =>
              obtain ⟨q, hq, rfl, rfl, hWr⟩ := hrel
              have hW9 := bnx HW9D.out hWr.out
              have hX7 := bnx HX7D.out hWr.out
              have hsb := HSB.out q
              by_cases hqk : q < k
              · have q0 : (q : Int) < (k : Int) := by omega
                have hk1 : q < es.length := by rw [← HNE.out]; exact hqk
                have hk2 : q < (strs par L).length := by rw [← HLN.out]; exact hqk
                obtain ⟨g, cg, hv, z1, hg, r1, z2, r3⟩ := HS.out.at hk1
                injection hv with hA _ hcc
                subst hA; subst hcc
                obtain ⟨A12, c12, hv3⟩ := own_slice (HS.out.cl _ (List.getElem_mem hk1)).1
                obtain ⟨d1, z3, d3⟩ := esx HES.out hk1 hk2
                clear z1 z2 z3
                have hev : extV par L (((strs par L)[q].1 : Nat) : Int) = (((strs par L)[q].2.1 : Int), 0) := by
                  unfold extV
                  rw [if_pos HLE.out]
                  exact extR_hit hk2 (fun j hj hjk => by have := List.pairwise_iff_getElem.1 (strs_chain par L) j q hj hk2 hjk; omega) rfl
                rw [hv3, d3] at r3
                rw [d1] at r1
                have r1 := cell_keep hW9 r1
                have r3 := cell_keep hW9 r3
                have hst := sumD_take hk2
                have hsb2 := HSB.out (q + 1)
                have hxe := strs_end par L _ (List.getElem_mem hk2)
                have hxs := strs_sg' par L _ (List.getElem_mem hk2)
                have hxb := (strs_bds par L _ (List.getElem_mem hk2))
                generalize (strs par L)[q] = X at *
                obtain ⟨x1, x2, sg⟩ := X
                dsimp only at r1 r3 hst hev hxe hxs hxb
                obtain ⟨ls, hls⟩ : ∃ k, k = sg.length := ⟨_, rfl⟩
                rw [← hls] at r3 hst hxs
                have HEX := hid fun (W : World) (hW : Below wr.heap.size wr W) => (show Calls Try.prog 12 #[.slice A3 m c3, .slice A5 ll c5, .int .i64 (x1 : Int)] W fun e w' => e = .returned (.tuple #[.int .i64 (x2 : Int), .int .i64 0]) ∧ Below W.heap.size W w' from by
                  have h1 := extent_any par L (x1 : Int) A3 A5 c3 c5 W ((HRP.out.below (bnx HX7.out (bnx hX7 hW))).more (bnx HX7.out (bnx hX7 hW)).size) (own_rd (own_keep HO7.out (bnx hX7 hW)) HLL.out)
                  rw [← HM.out, ← HLL.out, hev] at h1
                  exact h1)
                have y0 := (HXC.out wr hX7).1
                obtain ⟨sq, hsq⟩ : ∃ z, z = sumD ((strs par L).take q) := ⟨_, rfl⟩
                rw [← hsq] at hst hsb ⊢
                have HST2 := hid hst
                have hx50 : x2 ≤ 100 ∧ ls ≤ 100 := by have := HM.out; have := HLL.out; omega
                rw [hst] at hsb2
                have HR3 := hid r3; have HR1 := hid r1
                clear hst hsq hls hev hv3 d1 d3 hk1 hk2 hg hxe hxs hxb hbz2 r3
                go_upto_region 32 with (fail)
                refine region_call2 [0, 1, 2, 3, 4, 5, 6, 7] [8] [9, 10, 11, 12] [13] (fun W => W.cell? ⟨b10, 0, none⟩ = some (.slice A5 ll c5) ∧ W.cell? ⟨g, q * 3, none⟩ = some (.int .i64 (x1 : Int))) (by kernel_rfl) (by kernel_rfl) (fun d _ _ _ _ h => by cases d <;> exact h) ⟨y0, r1⟩ ?_
                apply Exists.intro
                simp only [List.map_cons, List.map_nil, List.getD_cons_zero, List.getD_cons_succ]
                refine ⟨⟨_, Or.inl ⟨by rfl, fun W hW => by go_simp; rfl⟩, _, Or.inl ⟨by rfl, fun W hW => by go_simp; rfl⟩, .slice A5 ll c5, Or.inl ⟨by rfl, fun W hW => by have p := hW.1; go_simp⟩, _, Or.inl ⟨by rfl, fun W hW => by go_simp; rfl⟩, _, Or.inl ⟨by rfl, fun W hW => by go_simp; rfl⟩, .pointer (some ⟨g, q * 3, none⟩), Or.inl ⟨by rfl, fun W hW => by go_simp⟩, .pointer (some ⟨g, q * 3, none⟩), Or.inl ⟨by rfl, fun W hW => by go_simp⟩, .int .i64 (x1 : Int), Or.inl ⟨by rfl, fun W hW => by have p := hW.2; go_simp⟩, rfl⟩, ?_⟩
                simp only [Act.put, List.setIfInBounds_toArray, List.set_cons_zero, List.set_cons_succ]
                refine wpMid_step rfl (fun K9 hK => ?_)
                go_simp
                go_wp2_with (first | (go_at_call 12; refine (HEX.out _ (Below.refl _ _).drew).mono ?_; rintro e we ⟨rfl, he⟩; have HWE2 := hid ((Below.refl wr.heap.size wr).drew.trans he); clear he))
                have y0e := cell_keep HWE2.out y0
                have r1e := cell_keep HWE2.out HR1.out
                refine hK.out _ _ ⟨y0e, r1e⟩ ?_
                clear hK K9
                simp only [wpMid]
                refine ⟨⟨y0e, r1e⟩, _, ⟨.tuple #[.int .i64 (x2 : Int), .int .i64 0], Or.inl ⟨by rfl, fun W hW => by go_simp⟩, .int .i64 (x2 : Int), Or.inl ⟨by rfl, fun W hW => by go_simp⟩, .int .i64 0, Or.inl ⟨by rfl, fun W hW => by go_simp⟩, .int .i64 (x2 : Int), Or.inl ⟨by rfl, fun W hW => by go_simp⟩, rfl⟩, ?_⟩
                simp only [Act.put, List.setIfInBounds_toArray, List.set_cons_zero, List.set_cons_succ]
                have r3e := cell_keep HWE2.out HR3.out
                have y0f := y0e
                have hD2 := hid (hWr.out.trans (HWE2.out.mono hWr.out.size))
                have HQ := hid (show sq + (x2 : Int) - (ls : Int) = sumD ((strs par L).take (q + 1)) by rw [HST2.out]; omega)
                clear y0 y0f r1
                go_wp2_with fail
                go_roundw
                case rel => exact ⟨q + 1, by omega, by go_num, by rw [← HQ.out], hD2⟩
                case measure => simp [intOf]; omega
              · obtain rfl : q = k := by omega
                have q0 : decide ((q : Int) < (q : Int)) = false := by simp
                have y0 := (HXC.out wr hX7).1
                have hsum : sumD ((strs par L).take q) = (m : Int) - (ll : Int) := by
                  rw [show (strs par L).take q = strs par L from by rw [HLN.out]; exact List.take_length, sumD_strs, ← HM.out, ← HLL.out]
                rw [hsum]
                have HBF := hid (bnx HX7.out hX7)
                clear hsum hsb hbz2
                go_wp2_with (first | (go_at_call 5; refine (HRV.out _).mono ?_; rintro e w99 ⟨rfl, hb99⟩; have HB99 := hid (bnx HBF.out hb99); clear hb99))
                go_ret
                exact ⟨rfl, HB99.out⟩
end Go.Proofs.Ytaoddenadfmdbaa

/- PROVED: ostracontop.TopCopied returns true for every list, cells and parallel, and what it is given reads as before. Conditions: none. -/
namespace Go.Proofs.Ytaoddenadfmdbaa
open Go.ChangeShapes Go.WideShapes Go.ChangeAt Go.RowKit Go.Joins Go.Deep
theorem max63 {n : Nat} (h : n ≤ maxLen) : n ≤ 9223372036854775807 := h
set_option maxRecDepth 100000 in
set_option maxHeartbeats 2000000 in
theorem copied_lifted (os : Os) (started : os.Started) (H : Type) (enc : TypeId × Value → H) :
    ReturnsInHanded {} Try.checked os 3 .any (Rows.topCopiedSpec.pre6 enc Try.prog Try.f3 Rows.topCopiedRow.domain false) (Rows.topCopiedSpec.post enc Try.prog Try.f3 false true false false) := by
  refine returnsInHanded_of_change (C := Try.checked) row_own started (by kernel_rfl) Try.func3
    (ChangeSpec.witness6 (enc := enc) (C := Try.checked) false ⟨#[], #[.agg #[.int .i64 0, .slice none 0 0], .slice none 0 0, .slice none 0 0], []⟩ 8 (by kernel_rfl) (by kernel_rfl) (by kernel_rfl) (by kernel_rfl)) ?_
  intro W base args ds gs before hval0 hW hcnd _
  have hval : ∀ (j : Nat) t v, Try.f3.params[j]? = some t → args[j]? = some v → Value.okWide Try.prog W .any base t v := hval0
  have hW' := hW
  obtain ⟨p, q, hA0, hV, rfl, hfz, hnd⟩ := hW
  have hA : DataW.TrodAll enc Try.prog W 0 (fun _ => true) true Try.f3.params.toList args.toList ds p := hA0
  rw [Try.params3] at hA hval
  obtain ⟨v0, vs0, d0, ds0, p0, q0, hargs, rfl, rfl, h0, r0⟩ := trodAll_cons hA
  obtain ⟨v1, vs1, d1, ds1, p1, q1, rfl, rfl, rfl, h1, r1⟩ := trodAll_cons r0
  obtain ⟨v2, vs2, d2, ds2, p2, q2, rfl, rfl, rfl, h2, r2⟩ := trodAll_cons r1
  obtain ⟨rfl, rfl, rfl⟩ := trodAll_nil r2
  obtain rfl : args = #[v0, v1, v2] := by cases args; simp_all
  obtain ⟨rfl, rfl⟩ := trodVars_none hV
  have k0 := h0
  have lt0 : ∀ x ∈ p0, x.block < W.heap.size := by obtain ⟨m, hm⟩ := k0; exact DataW.trod_lt m _ _ _ hm
  have k1 := h1
  have lt1 : ∀ x ∈ p1, x.block < W.heap.size := by obtain ⟨m, hm⟩ := k1; exact DataW.trod_lt m _ _ _ hm
  have k2 := h2
  have lt2 : ∀ x ∈ p2, x.block < W.heap.size := by obtain ⟨m, hm⟩ := k2; exact DataW.trod_lt m _ _ _ hm
  obtain ⟨P, A, ss, c, rfl, hl, hv, rs⟩ := open_list (hval 0 _ v0 rfl rfl) h0
  obtain ⟨m1, hm1⟩ := h1
  have hv1 := hval 1 _ v1 rfl rfl
  obtain ⟨a1, len1, cap1, rfl⟩ := okWide_slice Try.underlying25 hv1
  obtain ⟨A2, cs, c2, e2, hcl, hcs, rc⟩ := open_cells hm1
  obtain ⟨rfl, rfl, rfl⟩ : a1 = A2 ∧ len1 = cs.length ∧ cap1 = c2 := by injection e2 with q1 q2 q3; exact ⟨q1, q2, q3⟩
  obtain ⟨A3, par, c3, rfl, hnil, hcap, hpl, rp⟩ := open_line2 (hval 2 _ v2 rfl rfl) h2
  clear hA0 hval0
  refine (copied_law P ss cs par A a1 A3 c cap1 c3 (fun s hs => max63 (hv s hs)) (max63 hcl) (fun s hs => max63 (hcs s hs)) (max63 hpl) hnil hcap W rs rc rp).mono fun e W' ⟨he, bel⟩ => ?_
  subst he
  exact ⟨_, rfl, _, _, _, [], _, [], hW', trodAll_mk1 (shut_bool Try.underlying4 _), (trodAll_cons_mk (Below.trod row_laid (by kernel_rfl) (of_decide_eq_true (by kernel_rfl)) k0 bel lt0) (trodAll_cons_mk (Below.trod row_laid (by kernel_rfl) (of_decide_eq_true (by kernel_rfl)) k1 bel lt1) (trodAll_cons_mk (Below.trod row_laid (by kernel_rfl) (of_decide_eq_true (by kernel_rfl)) k2 bel lt2) trodAll_mk0))), rfl, bel.frame _, fun h => by cases h⟩
theorem copied_holds : Rows.TopCopiedSaid :=
  OpenClaim.holds_of_wide 3 Try.f3 rfl rfl rfl rfl rfl rfl rfl ⟨rfl, rfl, rfl, rfl, rfl⟩ rfl rfl rfl rfl rfl (by kernel_rfl) Try.func3 (by kernel_rfl)
    (of_decide_eq_true (by kernel_rfl)) (by unfold Func.isWrapper; first | (rw [if_pos (by decide +kernel)]; kernel_rfl) | (rw [if_neg (by decide +kernel)]; exact ⟨rfl, rfl⟩))
    (fun os started H enc _ => copied_lifted os started H enc)
#print axioms copied_holds
end Go.Proofs.Ytaoddenadfmdbaa
