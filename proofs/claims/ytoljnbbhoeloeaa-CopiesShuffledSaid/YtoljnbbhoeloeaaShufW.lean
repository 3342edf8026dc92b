/- WALK: the law CopiesShuffled. -/
import Derived.Test.YtoljnbbhoeloeaaShufL
namespace Go.Proofs.Ytoljnbbhoeloeaa
open Go.RowKit
theorem Try.infoBlock : (Try.prog.info? 85).map (fun i => (i.zero, i.size, i.bytes)) = some (some (.agg #[.slice none 0 0, .slice none 0 0, .slice none 0 0]), 3, 72) := by kernel_rfl
theorem flatB_app (xs ys : List Bk) : flatB (xs ++ ys) = flatB xs ++ flatB ys := by unfold flatB; rw [List.flatMap_append]
theorem flatB_drop {bs : List Bk} {T j : Nat} {u : Value} (hT : T ≤ bs.length) (h : (flatB (bs.drop T))[j]? = some u) : (flatB bs)[T * 3 + j]? = some u := by
  have e : flatB bs = flatB (bs.take T) ++ flatB (bs.drop T) := by rw [← flatB_app, List.take_append_drop]
  have hl : (flatB (bs.take T)).length = T * 3 := by rw [flatB_len, List.length_take]; omega
  rw [e, List.getElem?_append_right (by omega), hl, Nat.add_sub_cancel_left]
  exact h
theorem flatB_take {bs : List Bk} {T j : Nat} {u : Value} (h : (flatB (bs.take T))[j]? = some u) : (flatB bs)[j]? = some u := by
  have e : flatB bs = flatB (bs.take T) ++ flatB (bs.drop T) := by rw [← flatB_app, List.take_append_drop]
  rw [e, List.getElem?_append_left (List.getElem?_eq_some_iff.1 h).1]
  exact h
theorem lenTo_mono {ls : List Ln} {k : Nat} : ∀ m, k ≤ m → lenTo ls k ≤ lenTo ls m
  | 0, h => by rw [Nat.le_zero.1 h]; exact Nat.le_refl _
  | m + 1, h => by
    by_cases e : k = m + 1
    · rw [e]; exact Nat.le_refl _
    · have ih := lenTo_mono (ls := ls) (k := k) m (by omega)
      by_cases hm : m < ls.length
      · rw [lenTo_s hm]; omega
      · have e2 : lenTo ls (m + 1) = lenTo ls m := by
          unfold lenTo
          rw [List.take_of_length_le (by omega), List.take_of_length_le (by omega)]
        omega
theorem isRow_length {bs : List Bk} {row : List Int} (h : isRowB bs row = true) : row.length = bs.length := by
  unfold isRowB at h
  simp only [Bool.and_eq_true, decide_eq_true_eq] at h
  exact h.1.1
/-- Signs, those of the blocks before and those of this block's first lines. -/
def sgnIn (X : Nat) (ls : List Ln) (k : Nat) : Nat := X + lenTo ls k
theorem rot_bks {bs : List Bk} {w : World} {A : Option Addr} {base n c t : Nat} (h : w.ownsRow base 85 3 (.slice A n c) n (flatB (rot bs t))) (hn : n = bs.length) {A0 : Option Addr} (r : Bks w w.heap.size A0 bs) : Bks w w.heap.size A (rot bs t) := by
  refine ⟨?_, fun b hb => r.el b (rot_mem hb)⟩
  have := Reads.of_own h
  rwa [hn, ← rot_len (t := t)] at this
theorem flatB_one {bs : List Bk} {u : Value} (h : u ∈ flatB bs) : u.oneCell' = true := by
  unfold flatB at h
  obtain ⟨b, _, hu⟩ := List.mem_flatMap.1 h
  simp only [Bk.cells, List.mem_cons, List.not_mem_nil, or_false] at hu
  rcases hu with rfl | rfl | rfl <;> rfl
theorem wp_blks {o : Oper} {a : Act} {w : World} {K : Act → World → Prop} {Q : Exit → Act → World → Prop} (s x : Operand)
    (ho : o.op = .call { callee := .builtin .append, args := #[s, x], argTypes := #[68, 68] })
    (base : Nat) (v : Value) (n : Nat) (xs : List Bk) (hs : a.eval s = v) (hown : w.ownsRow base 85 3 v n (flatB xs))
    (ad : Addr) (m c : Nat) (news : List Bk) (hx : a.eval x = .slice (some ad) m c) (hm : news.length = m) (hp : ∀ j u, (flatB news)[j]? = some u → w.cell? (ad.add j) = some u) (hn : n + m ≤ 1000) (hbase : base ≤ w.heap.size)
    (h : ∀ v' w', w'.ownsRow base 85 3 v' (n + m) (flatB (xs ++ news)) → w.grownBy w' v.ownBlock → K (a.put o.dst v') w') : o.wp Try.prog a w K Q := by
  obtain ⟨i0, hi, hz0, hzz, hz2⟩ := info_parts Try.infoBlock
  refine wp_append_own w s x _ ho base _ i0 _ 3 72 Try.underlying68 hi hz0 hzz hz2 rfl (by decide) v n (flatB xs) hs hown ad m c (flatB news) hx (by rw [flatB_len, hm]) hp (fun u hu => flatB_one hu) (by unfold maxLen; omega) (by omega) hbase (fun v' w' a b _ => h v' w' (by rw [flatB_app]; exact a) b)
theorem step_blks {ops : Array Oper} {o : Oper} {a : Act} {w : World} {K : Act → World → Prop} {Q : Exit → Act → World → Prop} {E : Prop} (hgd : o.guard = none) (s x : Operand)
    (ho : o.op = .call { callee := .builtin .append, args := #[s, x], argTypes := #[68, 68] })
    (base : Nat) (v : Value) (n : Nat) (xs : List Bk) (hs : a.eval s = v) (hown : w.ownsRow base 85 3 v n (flatB xs))
    (ad : Addr) (m c : Nat) (news : List Bk) (hx : a.eval x = .slice (some ad) m c) (hm : news.length = m) (hp : ∀ j u, (flatB news)[j]? = some u → w.cell? (ad.add j) = some u) (hn : n + m ≤ 1000) (hbase : base ≤ w.heap.size)
    (h : ∀ v' w', w'.ownsRow base 85 3 v' (n + m) (flatB (xs ++ news)) → w.grownBy w' v.ownBlock → K (a.put o.dst v') w') :
    if Region.wanted o (yielded ops a.tmps) = true then Oper.wp Try.prog o a w K Q else E := by
  rw [if_pos (by simp [Region.wanted, hgd])]
  exact wp_blks s x ho base v n xs hs hown ad m c news hx hm hp hn hbase h
set_option maxRecDepth 100000 in
set_option maxHeartbeats 4000000 in
theorem shuf_law (bs : List Bk) (k : Int) (A : Option Addr) (c : Nat) (hc : bs.length ≤ c) (w : World) (r : Bks w w.heap.size A bs) :
    Calls Try.prog 16 #[.slice A bs.length c, .int .i64 k] w fun e w' => e = .returned (.bool true) ∧ Below w.heap.size w w' := by
  have R := fun W (hb : Below w.heap.size w W) => (r.below hb).more hb.size
  have N1 := hid fun W hb => count_any bs A c W (R W hb)
  have fin : Hid (∀ W W', Below w.heap.size w W → Below W.heap.size W W' → Below w.heap.size w W') := fun W W' h h' => h.trans (h'.mono h.size)
  have H0 : Hid (Below w.heap.size w w) := Below.refl _ _
  have WK : Hid (∀ W, Below w.heap.size w W → Calls Try.prog 20 #[] W fun e w' => e = .returned (.bool true) ∧ Below w.heap.size w w') := fun W hb => (works_any W).mono fun e w' h => ⟨h.1, fin.out _ _ hb h.2⟩
  by_cases h0 : blksErr bs = 0
  · have hn8 := (blks_ok h0).1
    rw [h0] at N1
    by_cases hN0 : bs.length = 0
    · have hd : ((bs.length : Int) == 0) = true := by rw [hN0]; rfl
      generalize cntRows bs = n1 at *
      generalize bs.length = N at *
      clear hN0 h0 r R hc hn8
      go_enter Try.func16, Try.ntmps16
      go_wp2_with (first | (go_at_call 36; refine (N1.out _ H0.out).mono ?_; rintro e w1 ⟨rfl, b1⟩; have H1 := hid (fin.out _ _ H0.out b1); clear b1 N1))
      refine (WK.out _ H1.out).mono ?_
      rintro e w7 ⟨rfl, hb7⟩
      have H7 := hid hb7
      clear hb7
      go_wp2_with fail
      go_ret
      exact ⟨rfl, H7.out⟩
    · have hd : ((bs.length : Int) == 0) = false := by rw [beq_eq_false_iff_ne]; omega
      obtain ⟨N, hN⟩ : ∃ N, N = bs.length := ⟨_, rfl⟩
      rw [← hN] at hd hc hN0 hn8 N1 ⊢
      obtain ⟨n1, hn1⟩ : ∃ n1, n1 = cntRows bs := ⟨_, rfl⟩
      rw [← hn1] at N1
      have HN := hid hN
      have HN1 := hid hn1
      have HR := hid R
      have H00 := hid h0
      clear hN hn1 h0 r R
      go_enter Try.func16, Try.ntmps16
      go_wp2_with (first | (go_at_call 36; refine (N1.out _ H0.out).mono ?_; rintro e w1 ⟨rfl, b1⟩; have H1 := hid (fin.out _ _ H0.out b1); clear b1 N1))
      have hb1 := Int.tmod_lt_of_pos k (show (0 : Int) < (N : Int) by omega)
      have hb2 := Int.lt_tmod_of_pos k (show (0 : Int) < (N : Int) by omega)
      have hw : wrap64 (k.tmod (N : Int) + (N : Int)) = k.tmod (N : Int) + (N : Int) := IntWalk.wrap64_in _ (by omega)
      have hb3 := Int.tmod_lt_of_pos (k.tmod (N : Int) + (N : Int)) (show (0 : Int) < (N : Int) by omega)
      have hb4 := Int.tmod_nonneg (N : Int) (show (0 : Int) ≤ k.tmod (N : Int) + (N : Int) by omega)
      obtain ⟨T, hT⟩ : ∃ T : Nat, (wrap64 (k.tmod (N : Int) + (N : Int))).tmod (N : Int) = (T : Int) := ⟨((k.tmod (N : Int) + (N : Int)).tmod (N : Int)).toNat, by rw [hw]; omega⟩
      rw [hw] at hT
      rw [hw, hT]
      have hTN : T < N := by omega
      clear hb1 hb2 hb3 hb4 hw hT
      have hr1 := HR.out w1 H1.out
      obtain ⟨g, s, hA, hgB, hcx⟩ := (HR.out w (Below.refl _ _)).at (by rw [← HN.out]; omega)
      subst hA
      clear hcx
      have hcell : ∀ W, Below w1.heap.size w1 W → ∀ j u, (flatB bs)[j]? = some u → W.cell? ⟨g, s + j, none⟩ = some u := fun W hb j u hu => by
        obtain ⟨ad, e, _, hx⟩ := (HR.out W (fin.out _ _ H1.out hb)).row.2 (by rw [← HN.out]; omega)
        injection e with e
        subst e
        have := hx j u hu
        rwa [Addr.add_lit] at this
      have HP1 : Hid (∀ W, Below w1.heap.size w1 W → ∀ j u, (flatB (bs.drop T))[j]? = some u → W.cell? ((⟨g, s + T * 3, none⟩ : Addr).add j) = some u) := fun W hb j u hu => by
        rw [Addr.add_lit, Nat.add_assoc]
        exact hcell W hb _ _ (flatB_drop (by rw [← HN.out]; omega) hu)
      have HP2 : Hid (∀ W, Below w1.heap.size w1 W → ∀ j u, (flatB (bs.take T))[j]? = some u → W.cell? ((⟨g, s, none⟩ : Addr).add j) = some u) := fun W hb j u hu => by
        rw [Addr.add_lit]
        exact hcell W hb _ _ (flatB_take hu)
      have HL1 : Hid ((bs.drop T).length = N - T) := by rw [List.length_drop, HN.out]; exact hid rfl
      have HL2 : Hid ((bs.take T).length = T) := by rw [List.length_take, ← HN.out]; exact (show min T N = T by omega)
      have t1 : (T : Int) ≤ (N : Int) := by omega
      have t2 : (N : Int) ≤ (c : Int) := by omega
      have t3 : (0 : Int) ≤ (T : Int) := by omega
      have t4 : ¬ c = T := by omega
      have t5 : T ≤ N := by omega
      have t6 : T ≤ c := by omega
      have t7 : ¬ c = 0 := by omega
      clear hr1 hcell
      go_wp2_with fail
      go_region_law (first
        | (refine step_blks rfl (.const (.slice none 0 0)) (.tmp 44) rfl w1.heap.size _ _ [] rfl (World.ownsRow_nil _ _ _ _) ⟨g, s + T * 3, none⟩ (N - T) (c - T) (bs.drop T) (by simp [Act.eval, Act.put]) HL1.out (HP1.out _ (Below.refl _ _).drew) (by omega) (by simp) ?_; intro v4 w4 hown4 hgrow4; have HB4 := hid (below_app ((Below.refl w1.heap.size w1).drew) (World.ownsRow_nil _ w1.heap.size 85 3) hgrow4 (Nat.le_refl _) (by simp)); have HO4 := hid hown4; clear hown4 hgrow4)
        | (refine step_blks rfl (.tmp 45) (.tmp 48) rfl w1.heap.size _ _ _ rfl HO4.out ⟨g, s, none⟩ T c (bs.take T) (by simp [Act.eval, Act.put]) HL2.out (HP2.out _ HB4.out) (by omega) HB4.out.size ?_; intro v5 w5 hown5 hgrow5; rw [show 0 + (N - T) + T = N by omega, List.nil_append] at hown5; obtain ⟨A6, c6, rfl⟩ := own_slice hown5; have HB5 := hid (below_app HB4.out HO4.out hgrow5 (Nat.le_refl _) HB4.out.size); have HO5 := hid hown5; clear hown5 hgrow5))
      have hbk := rot_bks HO5.out HN.out (HR.out w5 (fin.out _ _ H1.out HB5.out))
      have hct := count_any (rot bs T) A6 c6 w5 hbk
      rw [rot_cnt H00.out (by rw [← HN.out]; exact t5), rot_err H00.out, rot_len, ← HN.out, ← HN1.out] at hct
      have HCT := hid hct
      have H5 := hid (fin.out _ _ H1.out HB5.out)
      have hjn := fun W hb => joinC_any bs 3 (some ⟨g, s, none⟩) c W (HR.out W hb)
      rw [← HN.out] at hjn
      unfold JoinIsC at hjn
      have n0 : (0 : Int) < (N : Int) := by omega
      clear HP1 HP2 HL1 HL2 t1 t2 t3 t4 t5 t6 hbk hct HB4 HO4 HB5 HO5
      by_cases h3 : allRows bs = []
      · obtain ⟨e1, _⟩ := join_e3 (k := 3) H00.out (by decide) h3
        rw [e1] at hjn
        have HJN := hid hjn
        have hn1 : ((n1 : Int) == 0) = true := by
          have : n1 = 0 := by rw [HN1.out, show cntRows bs = (allRows bs).length from if_pos H00.out, h3]; rfl
          rw [this]; rfl
        clear hjn e1 h3
        go_wp2_with (first | (go_at_call 36; refine HCT.out.mono ?_; rintro e w6 ⟨rfl, b6⟩; have H6 := hid (fin.out _ _ H5.out b6); clear b6 HCT) | (go_at_call 40; refine (HJN.out _ H6.out).mono ?_; rintro e w7 ⟨A7, c7, es, rfl, l7, s7, k7, b7⟩; have H7 := hid (fin.out _ _ H6.out b7); clear b7 l7 s7 k7 HJN) | (go_at_call 20; refine (WK.out _ H7.out).mono ?_; rintro e w8 ⟨rfl, b8⟩; have H8 := hid b8; clear b8))
        go_ret
        exact ⟨rfl, H8.out⟩
      · obtain ⟨e1, e2⟩ := join_e4 (k := 3) H00.out (by decide) h3
        rw [e1, e2] at hjn
        have HJN := hid hjn
        clear hjn e1 e2 h3
        go_wp2_with (first | (go_at_call 36; refine HCT.out.mono ?_; rintro e w6 ⟨rfl, b6⟩; have H6 := hid (fin.out _ _ H5.out b6); clear b6 HCT) | (go_at_call 40; refine (HJN.out _ H6.out).mono ?_; rintro e w7 ⟨A7, c7, es, rfl, l7, s7, k7, b7⟩; have H7 := hid (fin.out _ _ H6.out b7); have L7 := hid l7; have LS := hid (listed (bs := bs) (k := 3) (row := []) s7); have CP := hid k7; clear b7 l7 s7 k7 HJN))
        go_loopw [11, 12] (fun sv iv wr => ∃ i : Nat, i ≤ N ∧ iv = .int .i64 i ∧ sv = .int .i64 (sgnTo bs i) ∧ w7 = wr) (fun _ i _ => N - (intOf i).toNat)
        case atStart => exact ⟨0, by omega, rfl, rfl, rfl⟩
        case round =>
          obtain ⟨i, hi, rfl, rfl, rfl⟩ := hrel
          by_cases hiN : i < N
          · have hib : i < bs.length := by rw [← HN.out]; exact hiN
            have hrb := HR.out w7 H7.out
            obtain ⟨g', s', hgs, hgB', hcb⟩ := hrb.at (by omega)
            injection hgs with hgs
            injection hgs with e1 e2
            subst e1; subst e2
            have a1 := (hcb i hib).2.2
            rw [← Nat.add_assoc] at a1
            have hel := (hrb.el _ (List.getElem_mem hib)).2.2.1
            have hx := sgnTo_le H00.out i (by omega)
            have hss := sgnTo_s hib
            have hbl := fun k hk => blk_le H00.out (List.getElem_mem hib) k hk
            have hmx := (blks_rows H00.out (List.getElem_mem hib)).2.1
            generalize bs[i].rows = rows at a1 hel hss hbl hmx
            generalize bs[i].ra = ra at a1 hel
            generalize bs[i].rc = rc at a1
            obtain ⟨X, hX⟩ : ∃ X, X = sgnTo bs i := ⟨_, rfl⟩
            rw [← hX] at hx hss ⊢
            have HSS := hid hss
            obtain ⟨M, hM⟩ : ∃ M, M = rows.length := ⟨_, rfl⟩
            rw [← hM] at a1 hmx
            have HM := hid hM
            have HEL := hid hel
            have HBL := hid hbl
            have hx2 : X ≤ 8000 := by omega
            have q5 : (i : Int) < (N : Int) := by omega
            clear hss hX hM hel hbl hx hcb hrb
            go_wp2_with fail
            go_loopw [11, 13] (fun sv kv wr' => ∃ k : Nat, k ≤ M ∧ kv = .int .i64 k ∧ sv = .int .i64 (sgnIn X rows k) ∧ w7 = wr') (fun _ i _ => M - (intOf i).toNat)
            case atStart => exact ⟨0, by omega, rfl, rfl, rfl⟩
            case round =>
              obtain ⟨k, hk, rfl, rfl, rfl⟩ := hrel
              by_cases hkM : k < M
              · have hkr : k < rows.length := by rw [← HM.out]; exact hkM
                obtain ⟨b3, o3, rfl, hb3, hc3⟩ := HEL.out.at (by omega)
                have a2 := hc3 k hkr
                have hls := lenTo_s hkr
                have hbl := HBL.out (k + 1) (by omega)
                generalize rows[k] = t at a2 hls
                obtain ⟨ta, tc, tl⟩ := t
                simp only [] at a2 hls
                obtain ⟨S, hS⟩ : ∃ S, S = sgnIn X rows k := ⟨_, rfl⟩
                have hS2 : sgnIn X rows (k + 1) = S + tl.length := by rw [hS]; unfold sgnIn; rw [hls]; omega
                have hSb : S + tl.length ≤ 9000 := by rw [← hS2]; unfold sgnIn; omega
                rw [← hS]
                generalize tl.length = nt at a2 hS2 hSb
                have HS2 := hid hS2
                have q6 : IntKind.i64.wrap ((S : Int) + (nt : Int)) = (S : Int) + (nt : Int) := IntWalk.i64_in _ (by omega)
                have q7 : (k : Int) < (M : Int) := by omega
                clear hS hS2 hls hbl hc3
                go_wp2_with fail
                go_roundw
                case rel => exact ⟨k + 1, by omega, by go_num, by rw [HS2.out]; simp, by first | exact rfl | trivial⟩
                case measure => simp [intOf]; omega
              · obtain rfl : M = k := by omega
                have HE : Hid (sgnTo bs (i + 1) = sgnIn X rows M) := by rw [HSS.out, HM.out]; exact hid rfl
                go_wp2_with fail
                go_roundw
                case rel => exact ⟨i + 1, by omega, by go_num, by rw [HE.out], by first | exact rfl | trivial⟩
                case measure => simp [intOf]; omega
          · obtain rfl : N = i := by omega
            obtain ⟨S, hS⟩ : ∃ S, S = sgnTo bs N := ⟨_, rfl⟩
            rw [← hS]
            have hSb : S ≤ 8000 := by
              have := sgnTo_le H00.out N (by rw [← HN.out]; exact Nat.le_refl _)
              omega
            have HS := hid hS
            obtain ⟨el, hel⟩ : ∃ el, el = es.length := ⟨_, rfl⟩
            rw [← hel]
            have HEL := hid hel
            have hel3 : el ≤ 3 := by have := LS.out.len; omega
            clear hS hel hiN hi
            go_wp2_with fail
            go_loopw [14] (fun iv wr' => ∃ i : Nat, i ≤ el ∧ iv = .int .i64 i ∧ Hid (Below w7.heap.size w7 wr')) (fun i _ => el - (intOf i).toNat)
            case atStart => exact ⟨0, by omega, rfl, Below.refl _ _⟩
            case round =>
              obtain ⟨i, hi, rfl, hB⟩ := hrel
              by_cases hie : i < el
              · have hie' : i < es.length := by rw [← HEL.out]; exact hie
                obtain ⟨bl, ol, rfl, hbl, hcl⟩ := L7.out.at (by omega)
                have p1 := (hB.out.cell (p := ⟨bl, ol + i, none⟩) hbl).trans (hcl i hie')
                have hri := L7.out.ln _ (List.getElem_mem hie')
                have hcp := CP.out _ (List.getElem_mem hie')
                have hrow := LS.out.rows i hie'
                have hrl := isRow_length hrow
                rw [← HN.out] at hrl
                have hln := fun W (hb : Below w7.heap.size w7 W) => lines_any bs es[i].2.2 (some ⟨g, s, none⟩) es[i].1 c es[i].2.1 (by omega) hcp W (HR.out W (fin.out _ _ H7.out hb)) ((hri.below hb).more hb.size)
                rw [← HN.out] at hln
                unfold LinIs at hln
                have hsh := fun (e9 : List Ln) (h : sig e9 = linOut bs es[i].2.2) => shuf_row H00.out hrow h
                rw [← HN.out, ← HS.out] at hsh
                generalize es[i] = t at p1 hri hcp hrow hrl hln hsh
                obtain ⟨ta, tc, tl⟩ := t
                simp only [] at p1 hri hcp hrow hrl hln hsh
                generalize linErr bs tl = le at hln hsh
                generalize linOut bs tl = lo at hln hsh
                generalize tl.length = nt at p1 hln
                have HLN := hid hln
                have HSH := hid hsh
                have hrb := fun W (hb : Below w7.heap.size w7 W) => HR.out W (fin.out _ _ H7.out hb)
                have h00 : 0 < bs.length := by rw [← HN.out]; omega
                have hmm := fun W (hb : Below w7.heap.size w7 W) => show W.cell? ⟨g, s + 2, none⟩ = some (.slice bs[0].ra (rows0 bs) bs[0].rc) from by
                  obtain ⟨g', s', hgs, hgB', hcb⟩ := (hrb W hb).at h00
                  injection hgs with hgs
                  injection hgs with e1 e2
                  subst e1; subst e2
                  have a3 := (hcb 0 h00).2.2
                  rw [Nat.zero_mul, Nat.zero_add, ← rows0_eq h00] at a3
                  exact a3
                have hr12 : rows0 bs ≤ 12 := by rw [rows0_eq h00]; exact (blks_rows H00.out (List.getElem_mem h00)).2.1
                generalize bs[0].ra = ra0 at hmm
                generalize bs[0].rc = rc0 at hmm
                generalize rows0 bs = R0 at hmm hsh HSH hr12
                have HMM := hid hmm
                have q7 : (i : Int) < (el : Int) := by omega
                clear hri hcp hrow hrl hln hsh hcl hie' hrb hmm h00
                go_wp2_with fail
                refine (HLN.out _ hB.out).mono ?_
                rintro e w9 ⟨A9, c9, es9, rfl, l9, s9, b9⟩
                have H9 := hid (hB.out.trans (b9.mono hB.out.size))
                have L9 := hid l9
                have hcase := HSH.out es9 s9
                clear b9 l9 s9 HSH HLN
                rcases hcase with rfl | ⟨rfl, hel9, hsum⟩
                · go_wp2_with fail
                  go_roundw
                  case rel => exact ⟨i + 1, by omega, by go_num, H9.out⟩
                  case measure => simp [intOf]; omega
                · have a3 := HMM.out w9 H9.out
                  have hmo := fun k (hk : k ≤ R0) => lenTo_mono (ls := es9) (k := k) R0 hk
                  rw [hel9] at hsum
                  rw [hsum] at hmo
                  rw [hel9]
                  have HMO := hid hmo
                  have HE9 := hid hel9
                  have HSU := hid hsum
                  clear hmo hel9 hsum
                  go_wp2_with fail
                  go_loopw [17, 18] (fun sv kv wr' => ∃ k : Nat, k ≤ R0 ∧ kv = .int .i64 k ∧ sv = .int .i64 (lenTo es9 k) ∧ w9 = wr') (fun _ i _ => R0 - (intOf i).toNat)
                  case atStart => exact ⟨0, by omega, rfl, rfl, rfl⟩
                  case round =>
                    obtain ⟨k, hk, rfl, rfl, rfl⟩ := hrel
                    by_cases hkM : k < R0
                    · have hkr : k < es9.length := by rw [HE9.out]; exact hkM
                      obtain ⟨b3, o3, rfl, hb3, hc3⟩ := L9.out.at (by omega)
                      have a2 := hc3 k hkr
                      have hls := lenTo_s hkr
                      have hmo := HMO.out (k + 1) (by omega)
                      generalize es9[k] = t at a2 hls
                      obtain ⟨ua, uc, ul⟩ := t
                      simp only [] at a2 hls
                      obtain ⟨Y, hY⟩ : ∃ Y, Y = lenTo es9 k := ⟨_, rfl⟩
                      rw [← hY] at hls ⊢
                      generalize ul.length = nu at a2 hls
                      have HLS := hid hls
                      have q8 : IntKind.i64.wrap ((Y : Int) + (nu : Int)) = (Y : Int) + (nu : Int) := IntWalk.i64_in _ (by omega)
                      have q9 : (k : Int) < (R0 : Int) := by omega
                      clear hY hls hmo hc3
                      go_wp2_with fail
                      go_roundw
                      case rel => exact ⟨k + 1, by omega, by go_num, by rw [HLS.out]; simp, by first | exact rfl | trivial⟩
                      case measure => simp [intOf]; omega
                    · obtain rfl : R0 = k := by omega
                      rw [HSU.out]
                      go_wp2_with fail
                      go_roundw
                      case rel => exact ⟨i + 1, by omega, by go_num, H9.out⟩
                      case measure => simp [intOf]; omega
              · obtain rfl : el = i := by omega
                go_wp2_with fail
                refine (WK.out _ (fin.out _ _ H7.out hB.out)).mono ?_
                rintro e w9 ⟨rfl, b9⟩
                have H9 := hid b9
                clear b9
                go_wp2_with fail
                go_ret
                exact ⟨rfl, H9.out⟩
  · have hne : (blksErr bs != 0) = true := by simp [h0]
    generalize blksErr bs = e0 at *
    generalize cntRows bs = n1 at *
    generalize bs.length = N at *
    clear h0 r R hc
    go_enter Try.func16, Try.ntmps16
    go_wp2_with (first | (go_at_call 36; refine (N1.out _ H0.out).mono ?_; rintro e w1 ⟨rfl, b1⟩; have H1 := hid (fin.out _ _ H0.out b1); clear b1 N1))
    refine (WK.out _ H1.out).mono ?_
    rintro e w7 ⟨rfl, hb7⟩
    have H7 := hid hb7
    clear hb7
    go_wp2_with fail
    go_ret
    exact ⟨rfl, H7.out⟩
end Go.Proofs.Ytoljnbbhoeloeaa
