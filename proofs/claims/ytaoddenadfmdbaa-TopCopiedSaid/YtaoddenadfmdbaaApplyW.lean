/- WALK: Apply of the library, on. -/
import Derived.Test.YtaoddenadfmdbaaApW
namespace Go.Proofs.Ytaoddenadfmdbaa
open Go.RowKit
/-- A slice of truth values that is only read. -/
def Rb (w : World) (B : Nat) (A : Option Addr) (l : List Bool) : Prop := Reads w B 1 A l.length (l.map Value.bool)
theorem Rb.below {w w' : World} {B : Nat} {A : Option Addr} {l : List Bool} (h : Rb w B A l) (hb : Below B w w') : Rb w' B A l := Reads.below h hb
theorem Rb.more {w : World} {B B' : Nat} {A : Option Addr} {l : List Bool} (h : Rb w B A l) (hB : B ≤ B') : Rb w B' A l := Reads.more h hB
theorem Rb.at {w : World} {B : Nat} {A : Option Addr} {l : List Bool} (h : Rb w B A l) (hl : 0 < l.length) :
    ∃ b o, A = some ⟨b, o, none⟩ ∧ b < B ∧ ∀ k (hk : k < l.length), w.cell? ⟨b, o + k, none⟩ = some (.bool l[k]) := by
  obtain ⟨b, o, rfl, hb, hc⟩ := Reads.at0 h hl (by simpa using hl)
  exact ⟨b, o, rfl, hb, fun k hk => hc k _ (by simp [hk])⟩
def apV (a b : List Int) (ch : List Bool) : List Int × Int :=
  if linesErr [a, b] = 0 then (if ch.length = (strs a b).length then (apF a ((strs a b).zip ch) 0, 0) else ([], 1)) else ([], linesErr [a, b])
theorem zip_drop {l : List Item} {ch : List Bool} {k : Nat} (h1 : k < l.length) (h2 : k < ch.length) : (l.zip ch).drop k = (l[k], ch[k]) :: (l.zip ch).drop (k + 1) := by
  rw [List.drop_eq_getElem_cons (by simp; omega)]
  simp
theorem strs_sg' (a b : List Int) : ∀ x ∈ strs a b, x.2.2.length ≤ a.length + b.length := by
  have h := stAt_bd a b _ (Nat.le_refl _)
  have h2 := pairs_len a b
  rw [strs_eq]
  exact fun x hx => by have := h.item x hx; omega
set_option maxRecDepth 100000 in
set_option maxHeartbeats 4000000 in
theorem apply_any (a b : List Int) (ch : List Bool) (Aa Ab Ac : Option Addr) (ca cb cc : Nat) (hnil : Aa = none → ca = 0) (hcap : a.length ≤ ca) (w : World) (ra : Rd w w.heap.size Aa a) (rb : Rd w w.heap.size Ab b) (rc : Rb w w.heap.size Ac ch) :
    Calls Try.prog 10 #[.slice Aa a.length ca, .slice Ab b.length cb, .slice Ac ch.length cc] w fun e w' => ∃ v, e = .returned (.tuple #[v, .int .i64 (apV a b ch).2]) ∧ w'.ownsRow w.heap.size 3 1 v (apV a b ch).1.length (ints (apV a b ch).1) ∧ Below w.heap.size w w' := by
  have hck := check_any [(Aa, ca, a), (Ab, cb, b)] (some ⟨w.heap.size, 0, none⟩) 2 (by simp) (w.alloc (.cells #[.slice Aa a.length ca, .slice Ab b.length cb] 26)) (w.heap.size + 1) (Lns.two _ ra rb)
  rw [show sig [(Aa, ca, a), (Ab, cb, b)] = [a, b] from rfl] at hck
  have Hck := hid hck; clear hck
  have Ra := hid ra; have Rbb := hid rb; have Rc := hid rc; clear ra rb rc
  by_cases h0 : linesErr [a, b] = 0
  · obtain ⟨ha, hb⟩ := two_ok h0
    rw [h0] at Hck
    have HV := hid (show apV a b ch = if ch.length = (strs a b).length then (apF a ((strs a b).zip ch) 0, 0) else ([], 1) from if_pos h0)
    have Hst := hid (fun W (r1 : Rd W W.heap.size Aa a) (r2 : Rd W W.heap.size Ab b) => stretches_any a b Aa Ab ca cb ha hb W r1 r2)
    have Hbd : Hid (∀ x ∈ strs a b, x.1 ≤ 120 ∧ x.2.1 ≤ 120 ∧ x.2.2.length ≤ 120 ∧ x.1 + x.2.1 ≤ a.length) := fun x hx => by have h1 := strs_bds a b x hx; have h2 := strs_sg' a b x hx; have h3 := strs_end a b x hx; omega
    have Hl := hid (show (strs a b).length ≤ 120 by have := (strs_bd a b).1; omega)
    have Hch := hid (strs_chain a b)
    clear h0
    obtain ⟨la, hla⟩ : ∃ la, la = a.length := ⟨_, rfl⟩
    obtain ⟨nc, hnc⟩ : ∃ nc, nc = ch.length := ⟨_, rfl⟩
    rw [← hla, ← hnc]
    rw [← hla] at hcap ha
    have Hla := hid hla; have Hnc := hid hnc; have Hnil := hid hnil; clear hla hnc hnil
    go_enter Try.func10, Try.ntmps10
    go_wp2_with fail
    rw [Hla.out]
    refine Hck.out.mono ?_
    rintro e w1 ⟨rfl, q, rfl⟩
    rw [← Hla.out]
    obtain ⟨w1, hw1⟩ : ∃ w1, w1 = ((w.alloc (.cells #[.slice Aa la ca, .slice Ab b.length cb] 26)).drewN q) := ⟨_, rfl⟩
    have hb1 : Below w.heap.size w w1 := by rw [hw1]; exact below_drewN ((Below.refl _ _).alloc (Nat.le_refl _) _) _
    rw [← hw1]
    clear hw1
    have Hb1 := hid hb1; clear hb1
    go_wp2_with fail
    rw [Hla.out]
    refine (Hst.out w1 ((Ra.out.below Hb1.out).more Hb1.out.size) ((Rbb.out.below Hb1.out).more Hb1.out.size)).mono ?_
    rintro e w2 ⟨v, es, rfl, hS, henc, hb2⟩
    rw [← Hla.out]
    obtain ⟨A, c, rfl⟩ := own_slice hS.own
    have HB2 := hid (Hb1.out.trans (hb2.mono Hb1.out.size))
    have hlen : es.length ≤ 120 := by have := henc.len; have := Hl.out; omega
    have HS := hid hS; have Henc := hid henc; clear hS henc hb2
    obtain ⟨n, hn⟩ : ∃ n, n = es.length := ⟨_, rfl⟩
    rw [← hn] at hlen ⊢
    have Hn := hid hn; clear hn
    by_cases hcn : nc = n
    · have HV2 := hid (show apV a b ch = (apF a ((strs a b).zip ch) 0, 0) by rw [HV.out, if_pos (by rw [← Hnc.out, hcn, Hn.out, Henc.out.len])])
      subst hcn
      clear HV
      go_wp2_with fail
      go_loopw [6, 10, 30] (fun v t i wr => ∃ (k tn : Nat) (o : List Int), k ≤ nc ∧ i = .int .i64 k ∧ t = .int .i64 tn ∧ tn ≤ la ∧ o.length ≤ 300 * k ∧ Hid (o ++ apF a (((strs a b).zip ch).drop k) tn = apF a ((strs a b).zip ch) 0) ∧ Hid (∀ y ∈ ((strs a b).zip ch).drop k, tn ≤ y.1.1) ∧ wr.ownsRow w2.heap.size 3 1 v o.length (ints o) ∧ Below w2.heap.size w2 wr) (fun _ _ i _ => nc - (intOf i).toNat)
      case atStart => exact ⟨0, 0, [], by omega, rfl, rfl, by omega, by simp, by show _ = _; simp, fun y _ => Nat.zero_le _, World.ownsRow_nil _ _ _ _, Below.refl _ _⟩
      case round =>
        obtain ⟨k, tn, o, hk, rfl, rfl, htn, hol, HE, HT, hown, hbr⟩ := hrel
        have Hbr := hid hbr; have Hown := hid hown; clear hbr hown
        by_cases hkn : k < nc
        · have hk1 : k < es.length := by rw [← Hn.out]; exact hkn
          have hk2 : k < (strs a b).length := by rw [← Henc.out.len]; exact hk1
          have hk3 : k < ch.length := by rw [← Hnc.out]; exact hkn
          obtain ⟨g, cg, hv, hg0, hg, q1, q2, q3⟩ := HS.out.at hk1
          injection hv with hA hle hc
          subst hA; subst hc
          clear hle hg0
          have hgr : g < wr.heap.size := Nat.lt_of_lt_of_le hg Hbr.out.size
          have p1 := (Hbr.out.cell (p := ⟨g, k * 3, none⟩) hg).trans q1
          have p2 := (Hbr.out.cell (p := ⟨g, k * 3 + 1, none⟩) hg).trans q2
          have p3 := (Hbr.out.cell (p := ⟨g, k * 3 + 2, none⟩) hg).trans q3
          clear q1 q2 q3
          have hcl := (HS.out.cl _ (List.getElem_mem hk1)).1
          obtain ⟨A3, c3, hv3⟩ := own_slice hcl
          obtain ⟨e1, e2, e3⟩ := enc_at Henc.out hk1 hk2
          have hx := Hbd.out _ (List.getElem_mem hk2)
          have hzd := zip_drop hk2 hk3
          obtain ⟨bc, oc, rfl, hbc, hcc⟩ := (Rc.out.below HB2.out).at (by omega)
          have p4 := ((Hbr.out.mono (Nat.le_refl _)).cell (p := ⟨bc, oc + k, none⟩) (Nat.lt_of_lt_of_le hbc HB2.out.size)).trans (hcc k hk3)
          have hbcr : bc < wr.heap.size := Nat.lt_of_lt_of_le hbc (Nat.le_trans HB2.out.size Hbr.out.size)
          have htx : tn ≤ (strs a b)[k].1 := HT.out ((strs a b)[k], ch[k]) (by rw [hzd]; simp)
          have hlater : ∀ y ∈ ((strs a b).zip ch).drop (k + 1), (strs a b)[k].1 + (strs a b)[k].2.1 < y.1.1 := fun y hy => by
            obtain ⟨j, hj, rfl⟩ := List.getElem_of_mem hy
            simp only [List.getElem_drop, List.getElem_zip]
            simp at hj
            have := List.pairwise_iff_getElem.1 Hch.out k (k + 1 + j) hk2 (by omega) (by omega)
            exact this
          rw [hv3] at p3 hcl
          rw [e3] at p3 hcl
          rw [e1] at p1
          rw [e2] at p2
          rw [hzd] at HE HT
          generalize (strs a b)[k] = X at *
          generalize ch[k] = chk at *
          obtain ⟨x1, x2, sg⟩ := X
          simp only at p1 p2 p3 hcl hx htx hlater HE HT
          obtain ⟨ls, hls⟩ : ∃ ls, ls = sg.length := ⟨_, rfl⟩
          rw [← hls] at p3 hcl
          have hls2 : ls ≤ 120 := by omega
          have Hls := hid hls; have Hlater := hid hlater; have Hcl := hid hcl
          clear hls hlater hcl e1 e2 e3 hv3 hzd hcc hk1 hk2 hk3
          rw [Int.natCast_add] at p2
          cases chk with
          | false =>
            have HE2 : Hid (o ++ apF a (((strs a b).zip ch).drop (k + 1)) tn = apF a ((strs a b).zip ch) 0) := HE.out
            have HT2 : Hid (∀ y ∈ ((strs a b).zip ch).drop (k + 1), tn ≤ y.1.1) := fun y hy => by have := Hlater.out y hy; omega
            clear HE HT
            go_wp2_with fail
            go_roundw
            case rel => exact ⟨k + 1, tn, o, by omega, by go_num, rfl, htn, by omega, HE2.out, HT2.out, Hown.out.alloc _, Hbr.out.alloc Hbr.out.size _⟩
            case measure => simp [intOf]; omega
          | true =>
            have HE2 : Hid (o ++ (a.drop tn).take (x1 - tn) ++ sg ++ apF a (((strs a b).zip ch).drop (k + 1)) (x1 + x2) = apF a ((strs a b).zip ch) 0) := by
              show _ = _
              rw [← HE.out, List.append_assoc, List.append_assoc]
              rfl
            have HT2 : Hid (∀ y ∈ ((strs a b).zip ch).drop (k + 1), x1 + x2 ≤ y.1.1) := fun y hy => by have := Hlater.out y hy; omega
            clear HE HT
            have d1 : (tn : Int) ≤ (x1 : Int) := by omega
            have d2 : (x1 : Int) ≤ (ca : Int) := by have := Hla.out; omega
            have hbx := Hbr.out.alloc Hbr.out.size (.cells #[.int .i64 x1, .int .i64 ((x1 : Int) + (x2 : Int)), .slice A3 ls c3] 66)
            have Hbx := hid hbx
            have HP1 : Hid (∀ W, Below w2.heap.size w2 W → Part W (if ca = tn then Aa else Option.map (fun x => x.add tn) Aa) (x1 - tn) (ca - tn) ((a.drop tn).take (x1 - tn))) := fun W hW => part_cut ((Ra.out.below HB2.out).below (hW.mono HB2.out.size |> fun h => ⟨h.os, h.tape, h.output, h.size, h.block⟩)) Hnil.out htx (by omega) (by rw [← Hla.out]; exact hcap)
            have HP2 : Hid (∀ W, Below w2.heap.size w2 W → Part W A3 ls c3 sg) := fun W hW => part_own (own_below Hcl.out hW)
            have HNE : Hid (∀ e : u6.ownBlock = some wr.heap.size, False) := fun e => by have := (Hown.out.lt wr.heap.size e).2; omega
            clear hbx
            go_wp2_with fail
            go_region_law (first
              | (refine step_line rfl (.tmp 39) (.tmp 44) Try.underlying26 Try.infoInt rfl (by decide) rfl w2.heap.size _ _ o rfl (own_drew (Hown.out.alloc _)) (if ca = tn then Aa else Option.map (fun x => x.add tn) Aa) (x1 - tn) (ca - tn) ((a.drop tn).take (x1 - tn)) (by simp [Act.eval, Act.put]) (HP1.out _ Hbx.out.drew) (by omega) (by have := Hbr.out.size; simp; omega) ?_; intro v4 w4 hown4 hgrow4
                 have hbw4 := below_app Hbx.out.drew (own_drew (Hown.out.alloc _)) hgrow4 (Nat.le_refl _) (by have := Hbr.out.size; simp; omega)
                 have k1 : w4.cell? ⟨wr.heap.size, 1, none⟩ = some (.int .i64 ((x1 : Int) + (x2 : Int))) := hgrow4.cell (by simp [go_sem]) (fun e => HNE.out e.symm)
                 have k2 : w4.cell? ⟨wr.heap.size, 2, none⟩ = some (.slice A3 ls c3) := hgrow4.cell (by simp [go_sem]) (fun e => HNE.out e.symm)
                 have hb4 := (hgrow4.block wr.heap.size (by simp) (fun e => HNE.out e.symm)).trans (heap_alloc_new wr (.cells #[.int .i64 x1, .int .i64 ((x1 : Int) + (x2 : Int)), .slice A3 ls c3] 66))
                 have hz4 : wr.heap.size < w4.heap.size := by have := hgrow4.size; simp at this; omega
                 have Hown4 := hid hown4; have Hbw4 := hid hbw4; have Hb4 := hid hb4
                 clear hown4 hgrow4 hbw4 hb4)
              | (refine step_line rfl (.tmp 45) (.tmp 47) Try.underlying26 Try.infoInt rfl (by decide) rfl w2.heap.size _ _ _ rfl Hown4.out A3 ls c3 sg (by simp [Act.eval]) (HP2.out _ Hbw4.out) (by omega) (by have := Hbw4.out.size; omega) ?_; intro v5 w5 hown5 hgrow5
                 have hne5 : ∀ e : v4.ownBlock = some wr.heap.size, False := fun e => own_ne_obj Hown4.out e Hb4.out (by decide) rfl
                 have m1 : w5.cell? ⟨wr.heap.size, 1, none⟩ = some (.int .i64 ((x1 : Int) + (x2 : Int))) := hgrow5.cell k1 (fun e => hne5 e.symm)
                 have hbw5 := below_app Hbw4.out Hown4.out hgrow5 (Nat.le_refl _) (by have := Hbw4.out.size; omega)
                 have hz5 : wr.heap.size < w5.heap.size := by have := hgrow5.size; omega
                 have Hown5 := hid hown5; have Hbw5 := hid hbw5
                 clear hown5 hgrow5 hbw5 hne5 k1 k2 hz4))
            all_goals
              go_wp2_with fail
              go_roundw
              case rel =>
                have h9 : ((a.drop tn).take (x1 - tn)).length = x1 - tn := by have := Hla.out; simp; omega
                refine ⟨k + 1, x1 + x2, o ++ (a.drop tn).take (x1 - tn) ++ sg, by omega, by go_num, by go_num, by have := Hla.out; omega, by have := Hls.out; simp only [List.length_append]; omega, HE2.out, HT2.out, ?_, Hbw5.out⟩
                have h8 : (o ++ (a.drop tn).take (x1 - tn) ++ sg).length = o.length + (x1 - tn) + ls := by have := Hls.out; simp only [List.length_append]; omega
                rw [h8]
                exact Hown5.out
              case measure => simp [intOf]; omega
        · obtain rfl : k = nc := by omega
          have hdr : ((strs a b).zip ch).drop k = [] := List.drop_eq_nil_of_le (by simp; have := Hnc.out; omega)
          have hcut : (a.drop tn).take (la - tn) = a.drop tn := List.take_of_length_le (by have := Hla.out; simp; omega)
          have HP1 : Hid (Part wr (if ca = tn then Aa else Option.map (fun x => x.add tn) Aa) (la - tn) (ca - tn) (a.drop tn)) := by
            have := part_cut (((Ra.out.below HB2.out)).below (show Below w.heap.size w2 wr from Hbr.out.mono HB2.out.size)) Hnil.out htn (by have := Hla.out; omega) (by have := Hla.out; omega)
            rwa [hcut] at this
          have hout : o ++ a.drop tn = apF a ((strs a b).zip ch) 0 := by
            have := HE.out
            rw [hdr] at this
            exact this
          have HO := hid hout
          clear hdr hcut hout HE HT
          have d1 : (tn : Int) ≤ (la : Int) := by omega
          go_wp2_with (at_builtin; refine app_line rfl (.tmp 52) (.tmp 55) Try.underlying26 Try.infoInt rfl (by decide) rfl w2.heap.size _ _ o rfl Hown.out (if ca = tn then Aa else Option.map (fun x => x.add tn) Aa) (la - tn) (ca - tn) (a.drop tn) (by simp [Act.eval]) HP1.out (by omega) Hbr.out.size ?_; intro v5 w5 hown5 hgrow5; have hbw5 := below_app Hbr.out Hown.out hgrow5 (Nat.le_refl _) Hbr.out.size; have Hown5 := hid hown5; have Hbw5 := hid hbw5; clear hown5 hgrow5 hbw5)
          all_goals
            go_ret2
            exact ⟨_, by rw [HV2.out]; rfl, by rw [HV2.out, ← HO.out, List.length_append, List.length_drop, ← Hla.out]; exact own_base Hown5.out HB2.out.size, HB2.out.trans (Hbw5.out.mono HB2.out.size)⟩
    · have HV2 := hid (show apV a b ch = ([], 1) by rw [HV.out, if_neg (by rw [← Hnc.out, ← Henc.out.len, ← Hn.out]; exact hcn)])
      have hcn2 : ((nc : Int) == (n : Int)) = false := by simp; omega
      go_wp2_with fail
      go_ret2
      exact ⟨_, by rw [HV2.out]; rfl, by rw [HV2.out]; exact World.ownsRow_nil _ _ _ _, HB2.out⟩
  · have HV := hid (show apV a b ch = ([], linesErr [a, b]) from if_neg h0)
    obtain ⟨er, her⟩ : ∃ er, er = linesErr [a, b] := ⟨_, rfl⟩
    rw [← her] at Hck h0 HV
    have h2 : (er == 0) = false := by simpa using h0
    clear her
    go_enter Try.func10, Try.ntmps10
    go_wp2_with fail
    refine Hck.out.mono ?_
    rintro e w1 ⟨rfl, q, rfl⟩
    go_wp2_with fail
    go_ret2
    exact ⟨_, by rw [HV.out]; rfl, by rw [HV.out]; exact World.ownsRow_nil _ _ _ _, below_drewN ((Below.refl _ _).alloc (Nat.le_refl _) _) _⟩
end Go.Proofs.Ytaoddenadfmdbaa
