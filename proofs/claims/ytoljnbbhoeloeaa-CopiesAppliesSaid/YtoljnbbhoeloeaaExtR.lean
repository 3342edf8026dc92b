/- WALK: Extent of the reference. -/
import Derived.Test.YtoljnbbhoeloeaaExtW
namespace Go.Proofs.Ytoljnbbhoeloeaa
open Go.RowKit
set_option maxRecDepth 100000 in
set_option maxHeartbeats 2000000 in
theorem ref_extent_any (a b : List Int) (at_ : Int) (Aa Ab : Option Addr) (ca cb : Nat) (w : World) (ra : Rd w w.heap.size Aa a) (rb : Rd w w.heap.size Ab b) :
    Calls Try.prog 27 #[.slice Aa a.length ca, .slice Ab b.length cb, .int .i64 at_] w fun e w' => e = .returned (.tuple #[.int .i64 (extV a b at_).1, .int .i64 (extV a b at_).2]) ∧ Below w.heap.size w w' := by
  have hck := checkTwo_any a b Aa Ab ca cb w w.heap.size ra rb
  have Hck := hid hck; clear hck
  have Ra := hid ra; have Rb := hid rb; clear ra rb
  by_cases h0 : linesErr [a, b] = 0
  · obtain ⟨ha, hb⟩ := two_ok h0
    have HV := hid (show extV a b at_ = extR (strs a b) at_ from if_pos h0)
    rw [h0] at Hck
    have hbd := strs_bds a b
    have hl := strs_bd a b
    clear h0
    have Hst := hid (fun W (r1 : Rd W W.heap.size Aa a) (r2 : Rd W W.heap.size Ab b) => ref_stretches_any a b Aa Ab ca cb ha hb W r1 r2)
    have Hbd : Hid (∀ x ∈ strs a b, x.1 ≤ 120 ∧ x.2.1 ≤ 120) := fun x hx => by have := hbd x hx; omega
    have Hl := hid (show (strs a b).length ≤ 120 by have := hl.1; omega)
    clear hbd hl
    go_enter Try.func27, Try.ntmps27
    go_wp2_with fail
    refine Hck.out.mono ?_
    rintro e w1 ⟨rfl, q, rfl⟩
    obtain ⟨w1, hw1⟩ : ∃ w1, w1 = w.drewN q := ⟨_, rfl⟩
    have hb1 : Below w.heap.size w w1 := by rw [hw1]; exact below_drewN (Below.refl _ _) _
    rw [← hw1]
    clear hw1
    have Hb1 := hid hb1; clear hb1
    go_wp2_with fail
    refine (Hst.out w1 ((Ra.out.below Hb1.out).more Hb1.out.size) ((Rb.out.below Hb1.out).more Hb1.out.size)).mono ?_
    rintro e w2 ⟨v, es, rfl, hS, henc, hb2⟩
    obtain ⟨A, c, rfl⟩ := own_slice hS.own
    have HB2 := hid (Hb1.out.trans (hb2.mono Hb1.out.size))
    have hlen : es.length ≤ 120 := by have := henc.len; have := Hl.out; omega
    have HS := hid hS; have Henc := hid henc; clear hS henc hb2
    obtain ⟨n, hn⟩ : ∃ n, n = es.length := ⟨_, rfl⟩
    rw [← hn] at hlen ⊢
    have Hn := hid hn; clear hn
    go_wp2_with fail
    go_loopw [10] (fun i wr => ∃ k : Nat, k ≤ n ∧ i = .int .i64 k ∧ Hid (∀ j (hj : j < es.length), j < k → ¬ es[j].1 = at_) ∧ Below w2.heap.size w2 wr) (fun i _ => n - (intOf i).toNat)
    case atStart => exact ⟨0, by omega, rfl, fun j hj h => by omega, Below.refl _ _⟩
    case round =>
      obtain ⟨k, hk, rfl, hE, hbr⟩ := hrel
      have Hbr := hid hbr; clear hbr
      by_cases hkn : k < n
      · have hk1 : k < es.length := by rw [← Hn.out]; exact hkn
        have hk2 : k < (strs a b).length := by rw [← Henc.out.len]; exact hk1
        obtain ⟨g, cg, hv, hg0, hg, q1, q2, q3⟩ := HS.out.at hk1
        injection hv with hA hle hc
        subst hA; subst hc
        clear hle hg0
        have p1 := (Hbr.out.cell (p := ⟨g, k * 3, none⟩) hg).trans q1
        have p2 := (Hbr.out.cell (p := ⟨g, k * 3 + 1, none⟩) hg).trans q2
        have p3 := (Hbr.out.cell (p := ⟨g, k * 3 + 2, none⟩) hg).trans q3
        clear q1 q2 q3
        have hgr : g < wr.heap.size := Nat.lt_of_lt_of_le hg Hbr.out.size
        obtain ⟨A3, c3, hv3⟩ := own_slice (HS.out.cl _ (List.getElem_mem hk1)).1
        rw [hv3] at p3
        obtain ⟨e1, e2, _⟩ := encR_at Henc.out hk1 hk2
        have hx := Hbd.out _ (List.getElem_mem hk2)
        have hhit : es[k].1 = at_ → extV a b at_ = (((strs a b)[k].2.1 : Int), 0) := fun h => by
          rw [HV.out]
          exact extR_hit hk2 (fun j hj hjk => by rw [← (encR_at Henc.out (by rw [Henc.out.len]; exact hj) hj).1]; exact hE.out j _ hjk) (by rw [← e1]; exact h)
        have hnext : ¬ es[k].1 = at_ → ∀ j (hj : j < es.length), j < k + 1 → ¬ es[j].1 = at_ := fun h j hj hjk => by
          rcases Nat.lt_or_ge j k with h2 | h2
          · exact hE.out j hj h2
          · obtain rfl : j = k := by omega
            exact h
        rw [e1] at p1 hhit hnext
        rw [e2] at p2
        have Hhit := hid hhit; have Hnext := hid hnext
        clear hhit hnext e1 e2 hv3 hE
        generalize (strs a b)[k].1 = x1 at *
        generalize (strs a b)[k].2.1 = x2 at *
        generalize es[k].2.2.2.length = n3 at *
        by_cases hat : (x1 : Int) = at_
        · have HX := hid (Hhit.out hat)
          subst hat
          clear Hnext Hhit HV
          go_wp2_with fail
          go_ret2
          exact ⟨by rw [HX.out]; rfl, HB2.out.trans (Hbr.out.mono HB2.out.size)⟩
        · have hat2 : ((x1 : Int) == at_) = false := by simpa using hat
          have HX := hid (Hnext.out hat)
          go_wp2_with fail
          go_roundw
          case rel => exact ⟨k + 1, by omega, by go_num, HX.out, Hbr.out⟩
          case measure => simp [intOf]; omega
      · obtain rfl : k = n := by omega
        have HX := hid (show extV a b at_ = (0, 1) by
          rw [HV.out]
          exact extR_miss fun j hj => by rw [← (encR_at Henc.out (by rw [Henc.out.len]; exact hj) hj).1]; exact hE.out j _ (by rw [Hn.out, Henc.out.len]; exact hj))
        go_wp2_with fail
        go_ret2
        exact ⟨by rw [HX.out]; rfl, HB2.out.trans (Hbr.out.mono HB2.out.size)⟩
  · have HV := hid (show extV a b at_ = (0, linesErr [a, b]) from if_neg h0)
    obtain ⟨er, her⟩ : ∃ er, er = linesErr [a, b] := ⟨_, rfl⟩
    rw [← her] at Hck h0 HV
    have h2 : (er == 0) = false := by simpa using h0
    clear her
    go_enter Try.func27, Try.ntmps27
    go_wp2_with fail
    refine Hck.out.mono ?_
    rintro e w1 ⟨rfl, q, rfl⟩
    go_wp2_with fail
    go_ret2
    exact ⟨by rw [HV.out]; rfl, below_drewN (Below.refl _ _) _⟩
end Go.Proofs.Ytoljnbbhoeloeaa
