/- WALK: first, for one restoration. -/
import Derived.Test.YtaoddenadfmdbaaWlkW
namespace Go.Proofs.Ytaoddenadfmdbaa
open Go.RowKit Go.Maps
theorem row0_snoc (j : Nat) : ints (nzL (List.range (j + 1))) = ints (nzL (List.range j)) ++ [.int .i64 (j : Int)] := by
  rw [List.range_succ]
  simp [ints, nzL]
theorem lang0 {cs : List Cl} {T : List Int} : lang cs [0] T ↔ Acc cs 0 0 T := by
  have hp : PosOk cs 0 0 := by
    rcases Nat.eq_zero_or_pos cs.length with h | h
    · exact .inr ⟨h.symm, rfl⟩
    · exact .inl ⟨h, Nat.zero_le _⟩
  have h1 := posAt_num hp
  have h2 : num cs 0 0 = 0 := by unfold num posTo; rfl
  rw [h2] at h1
  constructor
  · rintro ⟨x, hx, h⟩
    obtain rfl : x = 0 := by simpa using hx
    rw [h1] at h
    exact h
  · intro h
    exact ⟨0, by simp, by rw [h1]; exact h⟩
theorem zero_ok {cs : List Cl} : SetOk cs [0] := fun x hx => by
  obtain rfl : x = 0 := by simpa using hx
  rw [posL_len]; omega
theorem Bc_small {n f : Nat} (hn : n ≤ 12) (hf : f ≤ 12) : Bc n f ≤ 1000000000000000 := by
  have h1 := Bc_le n f
  have h2 : (n + 1) ^ f ≤ 13 ^ f := Nat.pow_le_pow_left (by omega) f
  have h3 : 13 ^ f ≤ 13 ^ 12 := Nat.pow_le_pow_right (by omega) hf
  have h4 : (13 : Nat) ^ 12 ≤ 1000000000000000 := by decide
  omega
/-- What first returns. -/
def Fst (cs : List Cl) (par : List Int) (n K : Nat) (e : Ending) (W : World) : Prop := ∃ (L : List Int) (A : Option Addr) (c : Nat) (v1 v2 : Value) (g cg b0 : Nat), (K ≤ g ∧ K ≤ b0) ∧ e = .returned (.slice (some ⟨g, 0, none⟩) 1 cg) ∧ (W.cell? ⟨g, 0, none⟩ = some (.slice A L.length c) ∧ W.cell? ⟨g, 1, none⟩ = some v1 ∧ W.cell? ⟨g, 2, none⟩ = some v2 ∧ W.cell? ⟨g, 3, none⟩ = some (.int .i64 (ED L par : Nat))) ∧ (∃ A5 n5 c5, v1 = .slice A5 n5 c5) ∧ (∃ A6 n6 c6, v2 = .slice A6 n6 c6) ∧ W.ownsRow b0 3 1 (.slice A L.length c) L.length (ints L) ∧ Acc cs 0 0 L ∧ ∀ a ∈ L, 0 ≤ a ∧ a < n
set_option maxRecDepth 100000 in
set_option maxHeartbeats 8000000 in
theorem first_any {cs : List Cl} {par : List Int} {n B : Nat} {A2 A3 : Option Addr} {c2 c3 gq cq : Nat} {D : DataW Unit} {K : Nat} (hc : CsOk cs n) (hn : n ≤ 12) (hp : par.length ≤ 60) (hsu : sumM cs ≤ 12) (w : World) (h : Sx cs par n B A2 A3 c2 c3 gq cq D K (.slice none 0 0) w) :
    Calls Try.prog 26 #[.pointer (some ⟨B + 1, 0, none⟩), .int .i64 1] w fun e w' => Fst cs par n w.heap.size e w' ∧ Gb (B + 1) w w' := by
  have hnp := hc.np
  obtain ⟨bs, hbs⟩ : ∃ k, k = w.heap.size := ⟨_, rfl⟩
  obtain ⟨w1, hw1⟩ : ∃ W, W = (((w.alloc (.cells #[.pointer (some ⟨B + 1, 0, none⟩)] 74)).alloc (.cells #[.int .i64 1] 3)).alloc (.cells #[.slice none 0 0] 57)) := ⟨_, rfl⟩
  have hb1 : Below w.heap.size w w1 := by
    rw [hw1]
    exact (((Below.refl w.heap.size w).alloc (Nat.le_refl _) _).alloc (by simp) _).alloc (by simp; omega) _
  have h1s : w1.cell? ⟨bs, 0, none⟩ = some (.pointer (some ⟨B + 1, 0, none⟩)) := by rw [hw1]; exact cell_old (cell_old (cell_here hbs rfl))
  have h1m : w1.cell? ⟨bs + 1, 0, none⟩ = some (.int .i64 1) := by rw [hw1]; exact cell_old (cell_here (by simp [hbs]) rfl)
  have h1o : w1.heap[bs + 2]? = some (.cells #[.slice none 0 0] 57 (0, 0)) := by rw [hw1]; exact nwB (by simp [hbs])
  have HPR := hid (prepare_any hc (by omega) (by omega) w1 (h.below hb1))
  have HC := hid hc; have HB1 := hid hb1; have H1S := hid h1s; have H1M := hid h1m; have H1O := hid h1o; have HBS := hid hbs; have HW1 := hid hw1
  have HK := hid h.kw; have HKB := hid h.kb
  clear hw1 hb1 h1m h1o hbs hc h
  go_enter Try.func26, Try.ntmps26
  go_upto_region 1 with (fail)
  rw [← HBS.out, ← HW1.out]
  clear HW1
  go_upto_region 2 with (first | (go_at_call 37; refine HPR.out.mono ?_; rintro e w2 ⟨rfl, ⟨rv, T, hs2, hr2, ht2, hb2⟩, hg2⟩; have HS2 := hid hs2; have HR2 := hid hr2; have HT2 := hid ht2; have HTB := hid hb2; have HG2 := hid hg2; clear hs2 hr2 ht2 hb2 hg2))
  have hK1 : bs < w1.heap.size := cell_lt H1S.out
  have hne : ∀ j, bs ≤ j → (some j : Option Nat) ≠ some (B + 1) := fun j hj e => by injection e with e; have := HK.out; have := HKB.out; have := HBS.out; omega
  have hE2 : WkE cs par n B A2 A3 c2 c3 gq cq D K rv (sumM cs + 1) T (bs + 2) bs (bs + 1) w2 := ⟨HS2.out, HR2.out, (HG2.out.block _ (lt_of_block H1O.out) (hne _ (by omega))).trans H1O.out, (World.cell?_of_block (a := ⟨bs, 0, none⟩) (HG2.out.block _ (cell_lt H1S.out) (hne _ (Nat.le_refl _)))).trans H1S.out, (World.cell?_of_block (a := ⟨bs + 1, 0, none⟩) (HG2.out.block _ (cell_lt H1M.out) (hne (bs + 1) (by omega)))).trans H1M.out⟩
  have p2 := hE2.bs
  have HE2 := hid hE2
  have hz2 : bs + 2 < w2.heap.size := lt_of_block hE2.bo
  obtain ⟨w3, hw3⟩ : ∃ W, W = w2.alloc (.cells #[.int .i64 0] 3) := ⟨_, rfl⟩
  have hb3 : Below w2.heap.size w2 w3 := by rw [hw3]; exact (Below.refl _ _).alloc (Nat.le_refl _) _
  have ho3 : w3.ownsRow w2.heap.size 3 1 (.slice (some ⟨w2.heap.size, 0, none⟩) 1 1) 1 (ints (nzL [0])) := by
    rw [hw3]
    exact own_lit w2 3 #[.int .i64 0] (B := w2.heap.size) (n := 1) (size := 1) (Nat.le_refl _) rfl (by unfold maxLen; omega)
  have HCL := hid (closed_any (by omega) HC.out.ok [0] zero_ok (by simp) (by have h1 := meas_le cs [0]; have h2 := HC.out.len; simp at h1; omega) _ w3 (Qu.of_own ho3 rfl (by decide)) ((HE2.out.sx.below hb3).up HE2.out.sx.kw hb3.size))
  have HB3 := hid hb3; have HW3 := hid hw3
  clear hw3 hb3 ho3 hE2 HS2 HR2 HPR
  go_upto_region 3 with (first | (go_at_call 38; rw [← HW3.out]; refine HCL.out.mono ?_; rintro e w4 ⟨S, A4, c4, rfl, k1, k2, k3, k4, k5, k6, k7⟩; have HST := hid (St.mk k1 k2 k3 k4); have HLG := hid k5; have HO4 := hid k6; have HB4 := hid (HB3.out.trans k7); clear k1 k2 k3 k4 k5 k6 k7))
  have hE4 := HE2.out.below HB4.out
  have p4 := hE4.bs
  have HE4 := hid hE4
  have hSl : 0 < S.length := List.length_pos_iff.2 HST.out.ne
  obtain ⟨g4, cap4, cur4, hv4, _⟩ := (HO4.out.2).resolve_left (fun h => by omega)
  injection hv4 with e1 _ e3
  subst e1
  subst e3
  have hg4 := HO4.out.lt g4 rfl
  obtain ⟨mb, hmb⟩ : ∃ k, k = w4.heap.size := ⟨_, rfl⟩
  obtain ⟨w5, hw5⟩ : ∃ W, W = w4.alloc (.map #[] 0) := ⟨_, rfl⟩
  have hb5 : Below w4.heap.size w4 w5 := by rw [hw5]; exact (Below.refl _ _).alloc (Nat.le_refl _) _
  have hM5 : w5.ownsMap Try.prog 9 (plainElem (H := Unit) Try.prog 3) mb 0 (.map []) := by
    rw [hw5, hmb]
    exact World.ownsMap_made (H := Unit) w4 Try.prog 9 (plainElem (H := Unit) Try.prog 3)
  have hLb : Lb cs S 12 := fun U hU => by
    have h1 := lang0.1 ((HLG.out U).1 hU)
    have h2 := acc_len h1 (fun _ => Nat.zero_le _)
    rw [List.drop_zero] at h2
    omega
  have HCT := hid (count_any HC.out (by omega) (show K ≤ mb by rw [hmb]; exact hE4.sx.kw) 12 S g4 c4 0 (.map []) w5 HST.out hLb (own_rd (own_keep HO4.out hb5) (nzL_len S).symm) (by omega) (by have := hb5.size; omega) (hE4.sx.below hb5) hM5 MemoOk.nil (by have := Bc_small hn (Nat.le_refl 12); omega))
  have HB5 := hid hb5; have HW5 := hid hw5; have HMB := hid hmb
  have hmm := @run_makeMap Try.prog
  clear hE4 hw5 hb5 hM5 hLb hmb HCL hg4
  go_upto_region 4 with (first | (go_at_call 39; rw [← HMB.out, ← HW5.out]; refine HCT.out.mono ?_; rintro e w6 ⟨x, r6, D6, rfl, hx1, hx2, _, _, _, hg6⟩; have HB6 := hid (show Below w4.heap.size w4 w6 from HB5.out.trans (hg6.below (by rw [HMB.out]; exact Nat.le_refl _) HB5.out.size)); clear hg6))
  have hE6 := HE4.out.below HB6.out
  have p6 := hE6.bs
  have pc2 := hE6.sx.s.cells.c2
  obtain ⟨m, hm⟩ : ∃ m, m = par.length := ⟨_, rfl⟩
  rw [← hm] at pc2 hp
  have HM := hid hm; have HE6 := hid hE6
  have HO6 := hid (own_keep HO4.out HB6.out)
  have HBW := hid (show Below w2.heap.size w2 w6 from HB4.out.trans (HB6.out.mono HB4.out.size))
  clear hm hE6 p4 p2 HCT HO4 HW3 HB3 HW5 HB5
  go_wp2_with fail
  clear p6 pc2
  go_loopw [7, 26] (fun v7 jv wr => ∃ j : Nat, j ≤ m + 1 ∧ jv = .int .i64 (j : Int) ∧ Hid (wr.ownsRow w6.heap.size 3 1 v7 j (ints (nzL (List.range j)))) ∧ Hid (Below w6.heap.size w6 wr)) (fun _ jv _ => m + 1 - (intOf jv).toNat)
  case atStart => exact ⟨0, by omega, rfl, hid (World.ownsRow_nil _ _ _ _), hid (Below.refl _ _)⟩
  case round =>
    obtain ⟨j, hj, rfl, hO, hB⟩ := hrel
    obtain ⟨A7, c7, rfl⟩ := own_slice hO.out
    by_cases hjm : j < m + 1
    · have q0 : (j : Int) < (m : Int) + 1 := by omega
      have hj10 : j ≤ 10000000000 := by omega
      have HSZ := hid hB.out.size
      have HA := hid (show Below wr.heap.size wr (wr.alloc (.cells #[.int .i64 (j : Int)] 3)) from (Below.refl _ _).alloc (Nat.le_refl _) _)
      go_wp2_with (first
        | (at_builtin; go_loud (refine app_elem rfl (.tmp 29) (.tmp 31) Try.underlying26 Try.infoInt rfl (by decide) (by decide) rfl w6.heap.size _ j (ints (nzL (List.range j))) rfl (hO.out.alloc _) ⟨wr.heap.size, 0, none⟩ [.int .i64 (j : Int)] rfl rfl (cell_news wr [.int .i64 (j : Int)] _) (by simp [Value.oneCell']) hj10 (by have := HSZ.out; simp; omega) ?_); intro v8 w8 ho8 hg8; have HO8 := hid ho8; have HB8 := hid (show Below w6.heap.size w6 w8 from (hB.out.trans (HA.out.mono hB.out.size)).grown hg8 (by have := HSZ.out; simp; omega) (fun k hk => (hO.out.lt k hk).1)); clear ho8 hg8))
      go_roundw
      case rel => exact ⟨j + 1, by omega, by go_num, by rw [row0_snoc]; exact HO8, HB8⟩
      case measure => simp [intOf]; omega
    · obtain rfl : j = m + 1 := by omega
      rw [show ((m + 1 : Nat) : Int) = (m : Int) + 1 by omega]
      have q0 : decide ((m : Int) + 1 < (m : Int) + 1) = false := by simp
      obtain ⟨w7, rfl⟩ : ∃ wo : World, wo = wr := ⟨_, rfl⟩
      have hE7 := HE6.out.below hB.out
      have HE7 := hid hE7
      have HO7 := hid (show w7.ownsRow w6.heap.size 3 1 (.slice A7 (m + 1) c7) (m + 1) (ints (nzL (rowOf par []))) from by
        have h1 := hO.out
        rw [show rowOf par [] = List.range (m + 1) by unfold rowOf row0; rw [HM.out]; rfl]
        exact h1)
      have HB7 := hid (HBW.out.trans (hB.out.mono HBW.out.size))
      have HO6b := hid (own_keep HO6.out hB.out)
      obtain ⟨L0, hL0, hL0r⟩ := st_some HC.out HST.out
      have hL0n : L0.length ≤ sumM cs := by
        have h1 := lang0.1 ((HLG.out L0).1 hL0)
        have h2 := acc_len h1 (fun _ => Nat.zero_le _)
        rw [List.drop_zero] at h2
        omega
      obtain ⟨d, hd⟩ : ∃ d, d = FE par L0 := ⟨_, rfl⟩
      have hd100 : d ≤ 100 := by
        have h1 := rowOf_bd par L0 par.length (Nat.le_refl _)
        have h2 : FE par L0 = (rowOf par L0).getD par.length 0 := rfl
        have h3 := HM.out
        omega
      obtain ⟨su, hsue⟩ : ∃ k, k = sumM cs := ⟨_, rfl⟩
      have HTO := hid fun (W : World) (hW : Below w7.heap.size w7 W) => total_any HC.out W (HE7.out.below hW).sx
      have HWK := hid fun (W : World) (hW : Below w7.heap.size w7 W) (ch q : Nat) (hch : ch ≤ 1000) (hq : q < su + 1) => walk_any (bo := bs + 2) (bs := bs) (bm := bs + 1) (changes := ch) HC.out (by omega) (by rw [← HM.out]; omega) (by omega) (by simpa using HT2.out) HTB.out q (by rw [← hsue]; exact hq) S [] (some ⟨g4, 0, none⟩) A7 c4 c7 none 0 0 W HST.out (fun U hU => by rw [List.nil_append]; exact lang0.1 ((HLG.out U).1 hU)) (fun a ha => by cases ha) (by simp; omega) (own_rd (own_keep HO6b.out hW) (nzL_len S).symm) (own_rd (own_keep HO7.out hW) (by rw [nzL_len, rowOf_len, ← HM.out])) (World.ownsRow_nil _ _ _ _) (HE7.out.below hW)
      rw [← hsue] at HTO hL0n hsu
      rw [← HM.out] at HWK
      have HL0 := hid hL0; have HL0R := hid hL0r; have HL0N := hid hL0n; have HDE := hid hd
      have HWF := hid fun (W : World) (hW : Below w7.heap.size w7 W) => (show W.cell? ⟨bs, 0, none⟩ = some (.pointer (some ⟨B + 1, 0, none⟩)) ∧ W.cell? ⟨bs + 1, 0, none⟩ = some (.int .i64 1) ∧ W.cell? ⟨bs + 2, 0, none⟩ = some (.slice none 0 0) from by
        have h1 := HE7.out.below hW
        exact ⟨h1.bs, h1.bm, by simp [World.cell?, h1.bo]⟩)
      have hbm7 : bs + 1 < w7.heap.size := cell_lt hE7.bm
      have h7m := hE7.bm
      have HBM7 := hid fun (W : World) (hg : Gb (bs + 2) w7 W) => (show W.cell? ⟨bs + 1, 0, none⟩ = some (.int .i64 1) from (World.cell?_of_block (a := ⟨bs + 1, 0, none⟩) (hg.block (bs + 1) hbm7 (by intro e; injection e with e; omega))).trans h7m)
      have hmin : min (1 : Int) x = 1 := by omega
      clear hE7 hL0 hL0r hL0n hd hsue hO hB hbm7 h7m
      go_wp2_with fail
      go_loopw [9] (fun cv wr => ∃ ch : Nat, cv = .int .i64 (ch : Int) ∧ ((ch ≤ d ∧ Hid (Below w7.heap.size w7 wr)) ∨ (ch ≤ d + 1 ∧ Hid (Fnd cs par n (bs + 2) wr) ∧ Hid (Gb (bs + 2) w7 wr)))) (fun cv _ => d + 2 - (intOf cv).toNat)
      case atStart => exact ⟨0, rfl, .inl ⟨by omega, hid (Below.refl _ _)⟩⟩
      case round =>
        obtain ⟨ch, rfl, ⟨hch, hB⟩ | ⟨hch, hF, hG⟩⟩ := hrel
        · obtain ⟨p1, p2, p3⟩ := HWF.out wr hB.out
          have HTW := hid (HTO.out wr hB.out)
          go_upto_region 14 with (first | (go_at_call 40; refine HTW.out.mono ?_; rintro e w8 ⟨rfl, h8⟩; have HB8 := hid (hB.out.trans (h8.mono hB.out.size)); clear h8))
          clear HTW p1 p2 p3 hB
          have hmf : ∀ (fn : Fn) (first cap : Array Value) (w : World), (Instr.makeFunc fn first cap).run Try.prog w = .ok (.func fn first cap) w := fun _ _ _ _ => rfl
          go_loopw [45] (fun qv wr => ∃ q : Nat, q ≤ su + 1 ∧ qv = .int .i64 (q : Int) ∧ Hid (∀ k, k < q → k ≠ L0.length ∨ ch ≠ d) ∧ Hid (Below w7.heap.size w7 wr)) (fun qv _ => su + 1 - (intOf qv).toNat)
          case atStart => exact ⟨0, by omega, rfl, hid fun k h => by omega, HB8⟩
          case round =>
            obtain ⟨q, hq, rfl, hN, hB⟩ := hrel
            by_cases hqs : q < su + 1
            · have q0 : (q : Int) < (su : Int) + 1 := by omega
              obtain ⟨p1, p2, p3⟩ := HWF.out wr hB.out
              have HW := hid (HWK.out wr hB.out ch q (by omega) hqs)
              go_upto_region 17 with (first | (go_at_call 41; refine HW.out.mono ?_; rintro e w9 (⟨rfl, hb9, hn9⟩ | ⟨rfl, hf9, hg9⟩)))
              · have HB9 := hid (hB.out.trans (hb9.mono hB.out.size)); have HN9 := hid hn9
                obtain ⟨y1, y2, y3⟩ := HWF.out w9 HB9.out
                clear hb9 hn9 p1 p2 p3 HW
                go_wp2_with fail
                go_roundw
                case rel =>
                  refine ⟨q + 1, by omega, by go_num, hid fun k hk => ?_, HB9⟩
                  by_cases e : k = q
                  · by_cases e2 : ch = d
                    · refine .inl fun e3 => ?_
                      have h1 := HN9.out L0 (by omega) HL0R.out HL0.out
                      rw [List.nil_append, ← HDE.out] at h1
                      exact h1 e2.symm
                    · exact .inr e2
                  · exact hN.out k (by omega)
                case measure => simp [intOf]; omega
              · have HF9 := hid hf9; have HG9 := hid ((Gb.of hB.out).trans hg9)
                have y2 := HBM7.out w9 HG9.out
                obtain ⟨L9, A9, c9, v91, v92, g9, cg9, b9, _, hh9, _⟩ := hf9
                have y3 : w9.cell? ⟨bs + 2, 0, none⟩ = some (.slice (some ⟨g9, 0, none⟩) 1 cg9) := by simp [World.cell?, hh9]
                clear hh9 hg9 p1 p2 p3 HW
                go_wp2_with fail
                go_roundw
                case rel => exact ⟨ch + 1, by go_num, .inr ⟨by omega, HF9, HG9⟩⟩
                case measure => simp [intOf]; omega
            · obtain rfl : q = su + 1 := by omega
              have q0 : decide (((su + 1 : Nat) : Int) < (su : Int) + 1) = false := decide_eq_false (by omega)
              have hne : ch ≠ d := (hN.out L0.length (by have := HL0N.out; omega)).resolve_left (fun h => h rfl)
              go_wp2_with fail
              go_roundw
              case rel => exact ⟨ch + 1, by go_num, .inl ⟨by omega, hB⟩⟩
              case measure => simp [intOf]; omega
        · have hF9 := hF.out
          obtain ⟨L, A, c, v1, v2, g, cg, b0, hgb, hh, ⟨h0, h1, h2, h3⟩, h5, h6, hown, hacc, hr⟩ := hF9
          have y2 := HBM7.out wr hG.out
          have y3 : wr.cell? ⟨bs + 2, 0, none⟩ = some (.slice (some ⟨g, 0, none⟩) 1 cg) := by simp [World.cell?, hh]
          have z3 : wr.frozen? ⟨bs + 2, 0, none⟩ = false := by simp [World.frozen?, hh]
          obtain ⟨wz, hwz⟩ : ∃ W, W = wr.setCell ⟨bs + 2, 0, none⟩ (.slice (some ⟨g, 0, none⟩) 1 cg) := ⟨_, rfl⟩
          have u0 : wz.cell? ⟨bs + 2, 0, none⟩ = some (.slice (some ⟨g, 0, none⟩) 1 cg) := by
            rw [hwz]
            simp [World.setCell, World.cell?, hh, Array.getElem?_modify]
          have hne : bs + 2 ≠ g := Nat.ne_of_lt hgb.1
          have hFz : Fst cs par n w.heap.size (.returned (.slice (some ⟨g, 0, none⟩) 1 cg)) wz := by
            refine ⟨L, A, c, v1, v2, g, cg, b0, ⟨by have := HBS.out; omega, by have := HBS.out; omega⟩, rfl, ⟨?_, ?_, ?_, ?_⟩, h5, h6, ?_, hacc, hr⟩
            · rw [hwz]; exact cell_set_far h0 (.inl hne)
            · rw [hwz]; exact cell_set_far h1 (.inl hne)
            · rw [hwz]; exact cell_set_far h2 (.inl hne)
            · rw [hwz]; exact cell_set_far h3 (.inl hne)
            · rw [hwz]
              exact ownsRow_setCell_other hown (a := ⟨bs + 2, 0, none⟩) (fun he => by have h7 := (hown.lt _ he).1; simp at h7; omega) _
          have hGz : Gb (B + 1) w wz := by
            have k1 : Gb (B + 1) w w7 := ((Gb.of HB1.out).trans HG2.out).trans (Gb.of HB7.out)
            have k2 := hG.out
            have hz : w.heap.size ≤ w7.heap.size := k1.size
            refine ⟨by rw [hwz]; exact k2.os.trans k1.os, by rw [hwz]; exact k2.tape.trans k1.tape, by rw [hwz]; exact k2.output.trans k1.output, by rw [hwz]; simpa [World.setCell] using Nat.le_trans k1.size k2.size, fun j hj hn => ?_⟩
            have hjb : bs + 2 ≠ j := by have := HBS.out; omega
            have e1 : wz.heap[j]? = wr.heap[j]? := by rw [hwz]; simp [World.setCell, Array.getElem?_modify, hjb]
            rw [e1]
            exact (k2.block j (by omega) (by intro e; injection e with e; omega)).trans (k1.block j hj hn)
          have HFZ := hid hFz; have HGZ := hid hGz
          clear hgb hh h0 h1 h2 h3 h5 h6 hown hacc hr hne hFz hGz hF hG
          go_wp2_with fail
          rw [← hwz]
          refine bodyPost_ret (v := .slice (some ⟨g, 0, none⟩) 1 cg) (by simp [results, Try.results26, go_sem, u0]) rfl ⟨HFZ.out, HGZ.out⟩
end Go.Proofs.Ytaoddenadfmdbaa

/- WALK: wall.List for one restoration, wall.Restore. -/
namespace Go.Proofs.Ytaoddenadfmdbaa
open Go.RowKit Go.Maps
theorem csok_of {n : Nat} {cs : List Cl} (hr : rightB n cs = true) (hlen : cs.length ≤ 8) (hm : ∀ c ∈ cs, 0 ≤ c.mx ∧ c.mx ≤ 9) (hs : ∀ c ∈ cs, c.signs.length ≤ 20) : CsOk cs n :=
  ⟨rightB_ok hr hm, hs, by omega, by
    rw [posL_len]
    have h1 := posTo_len hm cs.length (Nat.le_refl _)
    unfold num
    omega⟩
set_option maxRecDepth 100000 in
set_option maxHeartbeats 4000000 in
theorem list1_any (P : Int) (ss : List Sg) (cs : List Cl) (par : List Int) (hl : ss.length ≤ 12) (hv : ∀ s ∈ ss, s.vals.length ≤ 1000000 ∧ s.vals.length ≤ s.vc) (hlen : cs.length ≤ 8) (hm : ∀ c ∈ cs, 0 ≤ c.mx ∧ c.mx ≤ 9) (hsum : sumM cs ≤ 12) (hs : ∀ c ∈ cs, c.signs.length ≤ 20) (hll : par.length ≤ 60) (A A2 A3 : Option Addr) (c c2 c3 : Nat) (w : World) (rs : Sgs w w.heap.size A ss) (rc : Cls w w.heap.size A2 cs) (rl : Rd w w.heap.size A3 par) :
    Calls Try.prog 14 #[.agg #[.int .i64 P, .slice A ss.length c], .slice A2 cs.length c2, .slice A3 par.length c3, .int .i64 1] w fun e w' => ((wallE P ss cs par ≠ 0 ∧ e = .returned (.tuple #[.slice none 0 0, .int .i64 (wallE P ss cs par)])) ∨ (wallE P ss cs par = 0 ∧ ∃ v, e = .returned (.tuple #[v, .int .i64 0]) ∧ Fst cs par ss.length w.heap.size (.returned v) w')) ∧ Below w.heap.size w w' := by
  obtain ⟨w1, hw1⟩ : ∃ W, W = w.alloc (.cells #[.int .i64 P, .slice A ss.length c] 24) := ⟨_, rfl⟩
  have hb1 : Below w.heap.size w w1 := by rw [hw1]; exact (Below.refl _ _).alloc (Nat.le_refl _) _
  have c0 : w1.cell? ⟨w.heap.size, 0, none⟩ = some (.int .i64 P) := by rw [hw1]; exact cell_here rfl rfl
  have c1 : w1.cell? ⟨w.heap.size, 1, none⟩ = some (.slice A ss.length c) := by rw [hw1]; exact cell_here rfl rfl
  obtain ⟨w2, hw2⟩ : ∃ W, W = w1.alloc (.cells #[.slice A3 par.length c3] 26) := ⟨_, rfl⟩
  have hb2 : Below w1.heap.size w1 w2 := by rw [hw2]; exact (Below.refl _ _).alloc (Nat.le_refl _) _
  have hg2 : w2.cell? ⟨w1.heap.size, 0, none⟩ = some (.slice A3 par.length c3) := by rw [hw2]; exact cell_here rfl rfl
  have hbw : Below w.heap.size w w2 := hb1.trans (hb2.mono hb1.size)
  have HCK := hid (wcheck_any P ss cs par (by omega) hv hlen hm hsum hs hll A A2 A3 c c2 c3 w1.heap.size w2 ((rs.below hbw).more hbw.size) ((rc.below hbw).more hbw.size) ((rl.below hbw).more hbw.size) hg2)
  have HC1 := hid fun (W : World) (h : Below w1.heap.size w1 W) => cell_keep h c1
  have HRC := hid rc; have HRL := hid rl; have HW1 := hid hw1; have HW2 := hid hw2; have HBW := hid hbw; have HB2 := hid hb2; have HB1 := hid hb1
  obtain ⟨E, hE⟩ : ∃ E, E = wallE P ss cs par := ⟨_, rfl⟩
  have HOK := hid (show E = 0 → CsOk cs ss.length from fun h0 => by
    rw [hE] at h0
    have h1 : rightB ss.length cs = true := by
      unfold wallE wcellsE at h0
      by_cases e1 : listE P ss = 0
      · by_cases e2 : rightB ss.length cs = true
        · exact e2
        · simp [e1, e2] at h0
      · simp [e1] at h0
    exact csok_of h1 hlen hm hs)
  rw [← hE] at HCK ⊢
  obtain ⟨m, hme⟩ : ∃ m, m = par.length := ⟨_, rfl⟩
  obtain ⟨k, hk⟩ : ∃ k, k = cs.length := ⟨_, rfl⟩
  obtain ⟨n, hn⟩ : ∃ n, n = ss.length := ⟨_, rfl⟩
  have HNS := hid fun (W : World) (hW : Below w.heap.size w W) => newS_any n cs hlen hm A2 c2 (.slice A3 m c3) W ((rc.below hW).more hW.size) ⟨_, _, _, rfl⟩
  rw [← hn] at HOK HCK HC1 c1 HW1 hl
  rw [← hk] at HCK HNS
  rw [← hme] at HW2
  rw [← hn, ← hk, ← hme]
  have HME := hid hme; have HKE := hid hk
  clear hE hme hk hn hw1 hw2 hb1 hb2 hg2 hbw rs rc rl hv hm hs hlen
  go_enter Try.func14, Try.ntmps14
  go_upto_region 1 with (fail)
  rw [← HW1.out]
  by_cases h0 : E = 0
  · subst h0
    have HW := hid (within_any 1 1 64)
    have HCS := hid (HOK.out rfl)
    clear HOK
    go_upto_region 6 with (first | (go_at_call 23; rw [← HW2.out]; refine HCK.out.mono ?_; rintro e w3 ⟨rfl, hb3⟩; have HB3 := hid (HB2.out.trans (hb3.mono HB2.out.size)); clear hb3) | (go_at_call 24; refine (HW.out _).mono ?_; rintro e wz ⟨rfl, hwz⟩; subst wz))
    have p1 := HC1.out w3 HB3.out
    have HX3 := hid (HB1.out.trans (HB3.out.mono HB1.out.size))
    go_wp2_with (first
      | (go_at_call 25; refine (HNS.out w3 HX3.out).mono ?_; rintro e w4 ⟨rfl, hsb, hb4⟩; have HB4 := hid (HX3.out.trans (hb4.mono HX3.out.size)); have HSB := hid hsb; have HZ4 := hid hb4.size; clear hsb hb4)
      | (go_at_call 26; obtain ⟨gq, cq, D, hsx⟩ := Sx.of (by have h9 := HSB.out; rw [HKE.out, HME.out] at h9; exact h9) ((HRC.out.below HB4.out).more (Nat.le_trans HX3.out.size (Nat.le_refl _))) ((HRL.out.below HB4.out).more (Nat.le_trans HX3.out.size (Nat.le_refl _))); refine (first_any HCS.out hl hll hsum w4 hsx).mono ?_; rintro e w5 ⟨⟨L, A5, c5, v1, v2, g5, cg5, b5, ⟨k1, k2⟩, rfl, hrest⟩, hg5⟩; have HF5 := hid (show Fst cs par n w.heap.size (.returned (.slice (some ⟨g5, 0, none⟩) 1 cg5)) w5 from ⟨L, A5, c5, v1, v2, g5, cg5, b5, ⟨Nat.le_trans HB4.out.size k1, Nat.le_trans HB4.out.size k2⟩, rfl, hrest⟩); have HB5 := hid (HB4.out.trans (hg5.below (Nat.le_trans HX3.out.size (Nat.le_succ _)) HB4.out.size)); clear hrest hg5 hsx k1 k2))
    go_ret2
    exact ⟨⟨_, rfl, HF5.out⟩, HB5.out⟩
  · have e1 : (E != 0) = true := by simp [h0]
    have HX := hid h0
    clear h0
    go_wp2_with (first | (go_at_call 23; rw [← HW2.out]; refine HCK.out.mono ?_; rintro e w3 ⟨rfl, hb3⟩; have HB3 := hid (HB2.out.trans (hb3.mono HB2.out.size)); clear hb3))
    go_ret2
    exact ⟨.inl ⟨HX.out, rfl⟩, HB1.out.trans (HB3.out.mono HB1.out.size)⟩
def set4 (W : World) (b : Nat) (u0 u1 u2 u3 : Value) : World := (((W.setCell ⟨b, 0, none⟩ u0).setCell ⟨b, 1, none⟩ u1).setCell ⟨b, 2, none⟩ u2).setCell ⟨b, 3, none⟩ u3
theorem set4_below {w W : World} {K b : Nat} (h : Below K w W) (hb : K ≤ b) (u0 u1 u2 u3 : Value) : Below K w (set4 W b u0 u1 u2 u3) :=
  (((h.setCell (p := ⟨b, 0, none⟩) hb _).setCell (p := ⟨b, 1, none⟩) hb _).setCell (p := ⟨b, 2, none⟩) hb _).setCell (p := ⟨b, 3, none⟩) hb _
theorem set4_own {W : World} {b base size nn : Nat} {e : TypeId} {v : Value} {xs : List Value} (h : W.ownsRow base e size v nn xs) (hb : b < base) (u0 u1 u2 u3 : Value) : (set4 W b u0 u1 u2 u3).ownsRow base e size v nn xs := by
  have hne : ∀ j, v.ownBlock ≠ some (⟨b, j, none⟩ : Addr).block := fun j he => by have h7 := (h.lt _ he).1; simp at h7; omega
  exact ownsRow_setCell_other (ownsRow_setCell_other (ownsRow_setCell_other (ownsRow_setCell_other h (hne 0) _) (hne 1) _) (hne 2) _) (hne 3) _
theorem set4_rsb {W : World} {b : Nat} {v0 v1 v2 v3 : Value} (h : Rsb W b v0 v1 v2 v3) (u0 u1 u2 u3 : Value) : Rsb (set4 W b u0 u1 u2 u3) b u0 u1 u2 u3 := h.set0.set1.set2.set3
/-- What Restore gives. -/
def RstP (E : Int) (cs : List Cl) (par : List Int) (n K : Nat) (e : Ending) (W : World) : Prop := (E ≠ 0 ∧ e = .returned (.tuple #[.agg #[.slice none 0 0, .slice none 0 0, .slice none 0 0, .int .i64 0], .int .i64 E])) ∨ (E = 0 ∧ ∃ (L : List Int) (A : Option Addr) (c : Nat) (A5 : Option Addr) (n5 c5 : Nat) (A6 : Option Addr) (n6 c6 b0 : Nat), K ≤ b0 ∧ e = .returned (.tuple #[.agg #[.slice A L.length c, .slice A5 n5 c5, .slice A6 n6 c6, .int .i64 (ED L par : Nat)], .int .i64 0]) ∧ W.ownsRow b0 3 1 (.slice A L.length c) L.length (ints L) ∧ Acc cs 0 0 L ∧ ∀ a ∈ L, 0 ≤ a ∧ a < n)
set_option maxRecDepth 100000 in
set_option maxHeartbeats 4000000 in
theorem Restore_any (P : Int) (ss : List Sg) (cs : List Cl) (par : List Int) (hl : ss.length ≤ 12) (hv : ∀ s ∈ ss, s.vals.length ≤ 1000000 ∧ s.vals.length ≤ s.vc) (hlen : cs.length ≤ 8) (hm : ∀ c ∈ cs, 0 ≤ c.mx ∧ c.mx ≤ 9) (hsum : sumM cs ≤ 12) (hs : ∀ c ∈ cs, c.signs.length ≤ 20) (hll : par.length ≤ 60) (A A2 A3 : Option Addr) (c c2 c3 : Nat) (w : World) (rs : Sgs w w.heap.size A ss) (rc : Cls w w.heap.size A2 cs) (rl : Rd w w.heap.size A3 par) :
    Calls Try.prog 7 #[.agg #[.int .i64 P, .slice A ss.length c], .slice A2 cs.length c2, .slice A3 par.length c3] w fun e w' => RstP (wallE P ss cs par) cs par ss.length w.heap.size e w' ∧ Below w.heap.size w w' := by
  obtain ⟨w1, hw1⟩ : ∃ W, W = (w.alloc (.cells #[.int .i64 P, .slice A ss.length c] 24)).alloc (.cells #[.slice none 0 0, .slice none 0 0, .slice none 0 0, .int .i64 0] 33) := ⟨_, rfl⟩
  have hb1 : Below w.heap.size w w1 := by rw [hw1]; exact ((Below.refl w.heap.size w).alloc (Nat.le_refl _) _).alloc (by simp) _
  have c0 : w1.cell? ⟨w.heap.size, 0, none⟩ = some (.int .i64 P) := by rw [hw1]; exact cell_old (cell_here rfl rfl)
  have c1 : w1.cell? ⟨w.heap.size, 1, none⟩ = some (.slice A ss.length c) := by rw [hw1]; exact cell_old (cell_here rfl rfl)
  have HR1 := hid (show Rsb w1 (w.heap.size + 1) (.slice none 0 0) (.slice none 0 0) (.slice none 0 0) (.int .i64 0) by rw [hw1]; exact nwB (by simp))
  have HLS := hid (list1_any P ss cs par hl hv hlen hm hsum hs hll A A2 A3 c c2 c3 w1 ((rs.below hb1).more hb1.size) ((rc.below hb1).more hb1.size) ((rl.below hb1).more hb1.size))
  have HW1 := hid hw1; have HB1 := hid hb1
  obtain ⟨E, hE⟩ : ∃ E, E = wallE P ss cs par := ⟨_, rfl⟩
  rw [← hE] at HLS ⊢
  obtain ⟨m, hme⟩ : ∃ m, m = par.length := ⟨_, rfl⟩
  obtain ⟨k, hk⟩ : ∃ k, k = cs.length := ⟨_, rfl⟩
  obtain ⟨n, hn⟩ : ∃ n, n = ss.length := ⟨_, rfl⟩
  rw [← hn, ← hk, ← hme] at HLS
  rw [← hn] at c1 HW1
  rw [← hn, ← hk, ← hme]
  clear hE hme hk hn hw1 hb1 rs rc rl hv hm hs hlen hl hll hsum
  go_enter Try.func7, Try.ntmps7
  go_upto_region 1 with (fail)
  rw [← HW1.out]
  clear HW1
  go_upto_region 2 with (first | (go_at_call 14; refine HLS.out.mono ?_; rintro e w2 ⟨⟨hE0, rfl⟩ | ⟨rfl, v, rfl, L, A5, c5, v1, v2, g5, cg5, b5, ⟨k1, k2⟩, hv, ⟨h0, h1, h2, h3⟩, ⟨A6, n6, c6, rfl⟩, ⟨A7, n7, c7, rfl⟩, hown, hacc, hr⟩, hb2⟩))
  · have HB2 := hid (HB1.out.trans (hb2.mono HB1.out.size))
    have HR2 := hid (show Rsb w2 (w.heap.size + 1) (.slice none 0 0) (.slice none 0 0) (.slice none 0 0) (.int .i64 0) from (hb2.block _ (lt_of_block HR1.out)).trans HR1.out)
    have e1 : (E != 0) = true := by simp [hE0]
    have HE := hid hE0
    have z0 := HR2.out.cells.z 0; have z1 := HR2.out.cells.z 1; have z2 := HR2.out.cells.z 2; have z3 := HR2.out.cells.z 3
    have y0 := HR2.out.cells.c0; have y1 := HR2.out.cells.c1; have y2 := HR2.out.cells.c2; have y3 := HR2.out.cells.c3
    clear hb2 hE0
    go_wp2_with fail
    have hR := set4_rsb HR2.out (.slice none 0 0) (.slice none 0 0) (.slice none 0 0) (.int .i64 0)
    have hB := set4_below HB2.out (Nat.le_succ _) (.slice none 0 0) (.slice none 0 0) (.slice none 0 0) (.int .i64 0)
    obtain ⟨wz, hwz⟩ : ∃ W, W = set4 w2 (w.heap.size + 1) (.slice none 0 0) (.slice none 0 0) (.slice none 0 0) (.int .i64 0) := ⟨_, rfl⟩
    rw [← hwz] at hR hB
    unfold set4 at hwz
    rw [← hwz]
    have u0 := hR.cells.c0; have u1 := hR.cells.c1; have u2 := hR.cells.c2; have u3 := hR.cells.c3
    refine bodyPost_ret (v := .tuple #[.agg #[.slice none 0 0, .slice none 0 0, .slice none 0 0, .int .i64 0], .int .i64 E]) (by simp [results, Try.results7, go_sem, u0, u1, u2, u3]) rfl ⟨.inl ⟨HE.out, rfl⟩, hB⟩
  · have HB2 := hid (HB1.out.trans (hb2.mono HB1.out.size))
    have HR2 := hid (show Rsb w2 (w.heap.size + 1) (.slice none 0 0) (.slice none 0 0) (.slice none 0 0) (.int .i64 0) from (hb2.block _ (lt_of_block HR1.out)).trans HR1.out)
    injection hv with hv
    subst hv
    have z0 := HR2.out.cells.z 0; have z1 := HR2.out.cells.z 1; have z2 := HR2.out.cells.z 2; have z3 := HR2.out.cells.z 3
    have y0 := HR2.out.cells.c0; have y1 := HR2.out.cells.c1; have y2 := HR2.out.cells.c2; have y3 := HR2.out.cells.c3
    have HO := hid hown; have HA := hid hacc; have HRR := hid hr; have HK2 := hid k2
    obtain ⟨ll, hll⟩ : ∃ k, k = L.length := ⟨_, rfl⟩
    obtain ⟨d, hd⟩ : ∃ k, k = ED L par := ⟨_, rfl⟩
    rw [← hll] at h0; rw [← hd] at h3
    have HLL := hid hll; have HD := hid hd
    clear hb2 hown hacc hr k1 k2 hll hd
    go_wp2_with fail
    have hz1 : w.heap.size + 1 < w1.heap.size := lt_of_block HR1.out
    have hR := set4_rsb HR2.out (.slice A5 ll c5) (.slice A6 n6 c6) (.slice A7 n7 c7) (.int .i64 (d : Int))
    have hB := set4_below HB2.out (Nat.le_succ _) (.slice A5 ll c5) (.slice A6 n6 c6) (.slice A7 n7 c7) (.int .i64 (d : Int))
    have hO := set4_own HO.out (Nat.lt_of_lt_of_le hz1 HK2.out) (.slice A5 ll c5) (.slice A6 n6 c6) (.slice A7 n7 c7) (.int .i64 (d : Int))
    obtain ⟨wz, hwz⟩ : ∃ W, W = set4 w2 (w.heap.size + 1) (.slice A5 ll c5) (.slice A6 n6 c6) (.slice A7 n7 c7) (.int .i64 (d : Int)) := ⟨_, rfl⟩
    rw [← hwz] at hR hB hO
    unfold set4 at hwz
    rw [← hwz]
    have u0 := hR.cells.c0; have u1 := hR.cells.c1; have u2 := hR.cells.c2; have u3 := hR.cells.c3
    refine bodyPost_ret (v := .tuple #[.agg #[.slice A5 ll c5, .slice A6 n6 c6, .slice A7 n7 c7, .int .i64 (d : Int)], .int .i64 0]) (by simp [results, Try.results7, go_sem, u0, u1, u2, u3]) rfl ⟨.inr ⟨rfl, L, A5, c5, A6, n6, c6, A7, n7, c7, b5, by have := HK2.out; omega, by rw [HLL.out, HD.out], hO, HA.out, HRR.out⟩, hB⟩
end Go.Proofs.Ytaoddenadfmdbaa
