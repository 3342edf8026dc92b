/- WALK: the law CopiesLeast. -/
import Derived.Test.YtoljnbbhoeloeaaAlignW
import Derived.Test.YtoljnbbhoeloeaaCostW2
import Derived.Test.YtoljnbbhoeloeaaWorksW
namespace Go.Proofs.Ytoljnbbhoeloeaa
open Go.RowKit
theorem lines_turn (a b : List Int) : linesErr [b, a] = 0 ↔ linesErr [a, b] = 0 := by
  have key : ∀ x y : List Int, linesErr [x, y] = 0 ↔ lineErr x = 0 ∧ lineErr y = 0 := fun x y => by
    simp only [linesErr]
    by_cases h1 : lineErr x = 0 <;> by_cases h2 : lineErr y = 0 <;> simp [h1, h2]
  rw [key, key, And.comm]
theorem rp_of_own {w : World} {base n c : Nat} {A : Option Addr} {ps : List (Int × Int)} (h : w.ownsRow base 51 2 (.slice A n c) n (flatP ps)) (hn : n = ps.length) : Rp w w.heap.size A ps := by
  subst hn; exact Reads.of_own h
set_option maxRecDepth 100000 in
set_option maxHeartbeats 2000000 in
theorem least_any (a b : List Int) (ps : List (Int × Int)) (Aa Ab Ap : Option Addr) (ca cb cp : Nat) (w : World) (ra : Rd w w.heap.size Aa a) (rb : Rd w w.heap.size Ab b) (rp : Rp w w.heap.size Ap ps) :
    Calls Try.prog 7 #[.slice Aa a.length ca, .slice Ab b.length cb, .slice Ap ps.length cp] w fun e w' => e = .returned (.bool true) ∧ Below w.heap.size w w' := by
  have h1 := Align_any a b Aa Ab ca cb w ra rb
  have h2 := fun W (r1 : Rd W W.heap.size Ab b) (r2 : Rd W W.heap.size Aa a) => Align_any b a Ab Aa cb ca W r1 r2
  by_cases h0 : linesErr [a, b] = 0
  · obtain ⟨ha, hb⟩ := two_ok h0
    have h0' := (lines_turn a b).2 h0
    rw [show alP a b = pairsOf a b from if_pos h0, show alC a b = (D a b : Nat) from if_pos h0, h0] at h1
    rw [show alC b a = (D a b : Nat) by rw [show alC b a = (D b a : Nat) from if_pos h0', D_comm], h0'] at h2
    obtain ⟨ho1, ho2⟩ := cost_own a b
    have hlen := pairs_len a b
    have hco := fun W (A : Option Addr) (c : Nat) (r1 : Rd W W.heap.size Aa a) (r2 : Rd W W.heap.size Ab b) (r3 : Rp W W.heap.size A (pairsOf a b)) => cost_any a b (pairsOf a b) Aa Ab A ca cb c ha hb (by omega) W r1 r2 r3
    rw [ho1, ho2] at hco
    have hcp := fun (h : ps.length ≤ 200) W (r1 : Rd W W.heap.size Aa a) (r2 : Rd W W.heap.size Ab b) (r3 : Rp W W.heap.size Ap ps) => cost_any a b ps Aa Ab Ap ca cb cp ha hb h W r1 r2 r3
    have hle := fun (h : cIs a b ps = true) => cost_least h
    have hsm := fun W (r1 : Rd W W.heap.size Aa a) (r2 : Rd W W.heap.size Ab b) => same_any a b Aa Ab ca cb (by omega) W W.heap.size r1 r2
    have hds := D_same a b
    generalize cOf a b ps = cc at hcp hle
    generalize cIs a b ps = ib at hcp hle
    generalize D a b = dd at h1 h2 hco hle hds
    obtain ⟨sb, hsb⟩ : ∃ sb, sb = decide (a = b) := ⟨_, rfl⟩
    rw [← hsb] at hsm
    obtain ⟨np, hnp⟩ : ∃ np, np = ps.length := ⟨_, rfl⟩
    rw [← hnp] at hcp ⊢
    have H1 := hid h1; have H2 := hid h2; have Hco := hid hco; have Hcp := hid hcp; have Hle := hid hle; have Hsm := hid hsm; have Hds := hid hds; have Hsb := hid hsb; have Ra := hid ra; have Rb := hid rb; have Rpp := hid rp
    clear h1 h2 hco hcp hle hsm hds hsb ra rb rp h0 h0' ho1 ho2 hlen hnp ha hb
    go_enter Try.func7, Try.ntmps7
    go_wp2_with fail
    refine H1.out.mono ?_
    rintro e w1 ⟨v1, rfl, hown1, hb1⟩
    obtain ⟨A1, c1, rfl⟩ := own_slice hown1
    have Hown1 := hid hown1; have Hb1 := hid hb1; clear hown1 hb1
    go_wp2_with fail
    refine (H2.out w1 ((Rb.out.below Hb1.out).more Hb1.out.size) ((Ra.out.below Hb1.out).more Hb1.out.size)).mono ?_
    rintro e w2 ⟨v2, rfl, hown2, hb2⟩
    obtain ⟨A2, c2, rfl⟩ := own_slice hown2
    have HB2 := hid (Hb1.out.trans (hb2.mono Hb1.out.size))
    have Rp1 := hid (((rp_of_own Hown1.out rfl).below hb2).more hb2.size)
    clear hown2 hb2 Hown1 Hb1
    go_wp2_with fail
    refine (Hco.out w2 A1 c1 ((Ra.out.below HB2.out).more HB2.out.size) ((Rb.out.below HB2.out).more HB2.out.size) Rp1.out).mono ?_
    rintro e w3 ⟨rfl, hb3⟩
    have HB3 := hid (HB2.out.trans (hb3.mono HB2.out.size))
    clear hb3
    have fin : Hid (∀ W W', Below w.heap.size w W → Below W.heap.size W W' → Below w.heap.size w W') := fun W W' h h' => h.trans (h'.mono h.size)
    cases sb with
    | true =>
      have hd : dd = 0 := Hds.out.2 (of_decide_eq_true Hsb.out.symm)
      subst hd
      by_cases h200 : 200 < np
      · go_wp2_with (go_at_call 19; refine (Hsm.out w3 ((Ra.out.below HB3.out).more HB3.out.size) ((Rb.out.below HB3.out).more HB3.out.size)).mono ?_; rintro e w4 ⟨rfl, q, rfl⟩)
        refine (works_any _).mono ?_
        rintro e w5 ⟨rfl, hb5⟩
        have Hb5 := hid hb5; clear hb5
        go_wp2_with fail
        go_ret
        exact ⟨rfl, fin.out _ _ (below_drewN HB3.out q) Hb5.out⟩
      · have h200' : np ≤ 200 := by omega
        go_wp2_with (go_at_call 19; refine (Hsm.out w3 ((Ra.out.below HB3.out).more HB3.out.size) ((Rb.out.below HB3.out).more HB3.out.size)).mono ?_; rintro e w4 ⟨rfl, q, rfl⟩)
        have hB4 : Below w.heap.size w (w3.drewN q) := below_drewN HB3.out q
        have HB4 := hid hB4
        refine (Hcp.out h200' _ ((Ra.out.below hB4).more hB4.size) ((Rb.out.below hB4).more hB4.size) ((Rpp.out.below hB4).more hB4.size)).mono ?_
        rintro e w5 ⟨rfl, hb5⟩
        have HB5 := hid (fin.out _ _ hB4 hb5)
        clear hb5 hB4
        cases ib with
        | false =>
          go_wp2_with fail
          refine (works_any _).mono ?_
          rintro e w6 ⟨rfl, hb6⟩
          have Hb6 := hid hb6; clear hb6
          go_wp2_with fail
          go_ret
          exact ⟨rfl, fin.out _ _ HB5.out Hb6.out⟩
        | true =>
          have hle := Hle.out rfl
          go_wp2_with fail
          refine (works_any _).mono ?_
          rintro e w6 ⟨rfl, hb6⟩
          have Hb6 := hid hb6; clear hb6
          go_wp2_with fail
          go_ret
          exact ⟨rfl, fin.out _ _ HB5.out Hb6.out⟩
    | false =>
      have hd : ¬ dd = 0 := fun h => by have := Hsb.out; rw [decide_eq_true (Hds.out.1 h)] at this; cases this
      have hd2 : ((dd : Int) == 0) = false := by simp; omega
      by_cases h200 : 200 < np
      · go_wp2_with (go_at_call 19; refine (Hsm.out w3 ((Ra.out.below HB3.out).more HB3.out.size) ((Rb.out.below HB3.out).more HB3.out.size)).mono ?_; rintro e w4 ⟨rfl, q, rfl⟩)
        refine (works_any _).mono ?_
        rintro e w5 ⟨rfl, hb5⟩
        have Hb5 := hid hb5; clear hb5
        go_wp2_with fail
        go_ret
        exact ⟨rfl, fin.out _ _ (below_drewN HB3.out q) Hb5.out⟩
      · have h200' : np ≤ 200 := by omega
        go_wp2_with (go_at_call 19; refine (Hsm.out w3 ((Ra.out.below HB3.out).more HB3.out.size) ((Rb.out.below HB3.out).more HB3.out.size)).mono ?_; rintro e w4 ⟨rfl, q, rfl⟩)
        have hB4 : Below w.heap.size w (w3.drewN q) := below_drewN HB3.out q
        have HB4 := hid hB4
        refine (Hcp.out h200' _ ((Ra.out.below hB4).more hB4.size) ((Rb.out.below hB4).more hB4.size) ((Rpp.out.below hB4).more hB4.size)).mono ?_
        rintro e w5 ⟨rfl, hb5⟩
        have HB5 := hid (fin.out _ _ hB4 hb5)
        clear hb5 hB4
        cases ib with
        | false =>
          go_wp2_with fail
          refine (works_any _).mono ?_
          rintro e w6 ⟨rfl, hb6⟩
          have Hb6 := hid hb6; clear hb6
          go_wp2_with fail
          go_ret
          exact ⟨rfl, fin.out _ _ HB5.out Hb6.out⟩
        | true =>
          have hle := Hle.out rfl
          go_wp2_with fail
          refine (works_any _).mono ?_
          rintro e w6 ⟨rfl, hb6⟩
          have Hb6 := hid hb6; clear hb6
          go_wp2_with fail
          go_ret
          exact ⟨rfl, fin.out _ _ HB5.out Hb6.out⟩
  · have h0' : ¬ linesErr [b, a] = 0 := fun h => h0 ((lines_turn a b).1 h)
    generalize linesErr [a, b] = z1 at h1 h0
    generalize linesErr [b, a] = z2 at h2 h0'
    have b1 : (z1 == 0) = false := by simp [h0]
    have b2 : (z2 == 0) = false := by simp [h0']
    have b3 : (z1 != 0) = true := by simp [h0]
    have b4 : (z2 != 0) = true := by simp [h0']
    have H1 := hid h1; have H2 := hid h2; have Ra := hid ra; have Rb := hid rb
    clear h1 h2 ra rb rp
    go_enter Try.func7, Try.ntmps7
    go_wp2_with fail
    refine H1.out.mono ?_
    rintro e w1 ⟨v1, rfl, hown1, hb1⟩
    obtain ⟨A1, c1, rfl⟩ := own_slice hown1
    have Hb1 := hid hb1; clear hown1 hb1
    go_wp2_with fail
    refine (H2.out w1 ((Rb.out.below Hb1.out).more Hb1.out.size) ((Ra.out.below Hb1.out).more Hb1.out.size)).mono ?_
    rintro e w2 ⟨v2, rfl, hown2, hb2⟩
    obtain ⟨A2, c2, rfl⟩ := own_slice hown2
    have HB2 := hid (Hb1.out.trans (hb2.mono Hb1.out.size))
    clear hown2 hb2 Hb1
    go_wp2_with fail
    refine (works_any _).mono ?_
    rintro e w3 ⟨rfl, hb3⟩
    have Hb3 := hid hb3; clear hb3
    go_wp2_with fail
    go_ret
    exact ⟨rfl, HB2.out.trans (Hb3.out.mono HB2.out.size)⟩
end Go.Proofs.Ytoljnbbhoeloeaa
