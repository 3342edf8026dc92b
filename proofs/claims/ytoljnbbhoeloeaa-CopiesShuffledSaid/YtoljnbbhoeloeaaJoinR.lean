/- WALK: the reference's Join, and two lists of rows. -/
import Derived.Test.YtoljnbbhoeloeaaJoinW
import Derived.Test.YtoljnbbhoeloeaaSame
namespace Go.Proofs.Ytoljnbbhoeloeaa
open Go.RowKit
theorem Lns.take {w : World} {B m : Nat} {A : Option Addr} {ls : List Ln} (h : Lns w B A ls) : Lns w B A (ls.take m) := by
  refine ⟨⟨by simp [vals], fun hn => ?_⟩, fun t ht => h.ln t (List.mem_of_mem_take ht)⟩
  obtain ⟨ad, rfl, hb, hc⟩ := h.row.2 (by simp at hn; omega)
  refine ⟨ad, rfl, hb, fun j u hu => hc j u ?_⟩
  have e : vals (ls.take m) = (vals ls).take m := by unfold vals; rw [List.map_take]
  rw [e, List.getElem?_take] at hu
  split at hu
  · exact hu
  · cases hu
theorem take_min {α : Type} {l : List α} {k n : Nat} (h : l.length = n) : l.take (min k n) = l.take k := by
  by_cases hk : k ≤ n
  · rw [Nat.min_eq_left hk]
  · rw [Nat.min_eq_right (by omega), List.take_of_length_le (by omega), List.take_of_length_le (by omega)]
set_option maxRecDepth 100000 in
set_option maxHeartbeats 2000000 in
theorem ref_join_any (bs : List Bk) (k : Int) (A : Option Addr) (c : Nat) (w : World) (r : Bks w w.heap.size A bs) :
    Calls Try.prog 43 #[.slice A bs.length c, .int .i64 k] w fun e w' => JoinIs bs k w e w' := by
  have HC := hid (ref_checkBlocks_any bs A c w r)
  by_cases h0 : blksErr bs = 0
  · have hn8 := (blks_ok h0).1
    by_cases hk : 1 ≤ k ∧ k ≤ 64
    · have hd1 : decide (k < 1) = false := by rw [decide_eq_false_iff_not]; omega
      have hd2 : decide (64 < k) = false := by rw [decide_eq_false_iff_not]; omega
      have hJ3 := hid (fun h3 => join_e3 h0 hk h3)
      have hJ4 := hid (fun h3 => join_e4 h0 hk h3)
      have hR := fun w3 (hb : Below w.heap.size w w3) => ref_rows_any bs h0 A c w.heap.size bs.length [] (.slice none 0 0) (.slice none 0 0) [] w3 (by simp) (by simp) (World.ownsRow_nil _ _ _ _) (World.ownsRow_nil _ _ _ _) hb.size (r.below hb) (by have := pow_small hn8; simp; omega)
      have HR := hid hR
      obtain ⟨kk, rfl⟩ : ∃ kk : Nat, k = kk := ⟨k.toNat, by omega⟩
      rw [h0] at HC
      have hall : prm (fitN bs) bs.length bs.length [] = allRows bs := rfl
      rw [hall] at HR
      generalize hN : bs.length = N at *
      clear r hR h0 hN hall
      go_enter Try.func43, Try.ntmps43
      go_wp2_with (first | (go_at_call 33; refine HC.out.mono ?_; rintro e w3 ⟨rfl, hb3⟩; have HB3 := hid hb3))
      refine (HR.out _ HB3.out).mono ?_
      rintro e w4 ⟨v4, ys, rfl, hown4, hro4, hfr4⟩
      rw [List.nil_append] at hown4
      obtain ⟨es, rfl, hsg, hri⟩ := hro4
      have hyl : (vals es).length = es.length := by simp [vals]
      have hal : (allRows bs).length = es.length := by have := congrArg List.length hsg; simpa [sig] using this.symm
      rw [hyl] at hown4
      obtain ⟨A4, c4, rfl, hcap, _⟩ : ∃ (A4 : Option Addr) (c4 : Nat), v4 = .slice A4 es.length c4 ∧ es.length ≤ c4 ∧ True := by
        rcases hown4.2 with ⟨h2, h3⟩ | ⟨g, cap, cur, hv, _, _, h3, _⟩
        · exact ⟨none, 0, by rw [h2, h3], by omega, trivial⟩
        · exact ⟨_, _, hv, h3, trivial⟩
      have HLN : Hid (Lns w4 w4.heap.size A4 es) := ⟨Reads.of_own hown4, fun t ht => (hri t ht).rd⟩
      have HB4 := hid (HB3.out.trans hfr4.bel)
      have HSG := hid hsg
      have HAL := hid hal
      clear hown4 hri hsg hal hyl hfr4
      by_cases hz : es.length = 0
      · have hd3 : ((es.length : Int) == 0) = true := by rw [hz]; rfl
        have HJ := hid (hJ3.out (List.eq_nil_of_length_eq_zero (by rw [HAL.out]; exact hz)))
        clear hz
        go_wp2_with fail
        go_ret2
        exact join_none HJ.out HB4.out
      · have hd3 : ((es.length : Int) == 0) = false := by rw [beq_eq_false_iff_ne]; omega
        have HJ := hid (hJ4.out (fun e => hz (by rw [← HAL.out, e]; rfl)))
        obtain ⟨n, hn⟩ : ∃ n, n = es.length := ⟨_, rfl⟩
        rw [← hn] at hd3 hz hcap ⊢
        have HN := hid hn
        obtain ⟨m, hm⟩ : ∃ m, m = min kk n := ⟨_, rfl⟩
        have hmm : min (kk : Int) (n : Int) = (m : Int) := by omega
        have hmc : m ≤ c4 := by omega
        have hc0 : ¬ c4 = 0 := by omega
        have HM := hid hm
        clear hn hm hz
        go_wp2_with fail
        go_ret2
        have hml : (es.take m).length = m := by rw [List.length_take, ← HN.out, HM.out]; omega
        refine ⟨A4, c4, es.take m, by rw [HJ.out.1, hml]; rfl, HLN.out.take, ?_, HB4.out⟩
        have e : sig (es.take m) = (sig es).take m := by unfold sig; rw [List.map_take]
        rw [e, HJ.out.2, HSG.out, ← List.map_take, HM.out, take_min (by rw [HAL.out, HN.out])]
        simp
    · have hJ := hid (join_e2 h0 hk)
      rw [h0] at HC
      generalize hN : bs.length = N at *
      clear r h0 hN
      by_cases h1 : k < 1
      · have hd1 : decide (k < 1) = true := decide_eq_true h1
        clear hk h1
        go_enter Try.func43, Try.ntmps43
        go_wp2_with (first | (go_at_call 33; refine HC.out.mono ?_; rintro e w3 ⟨rfl, hb3⟩; have HB3 := hid hb3))
        go_ret2
        exact join_none hJ.out HB3.out
      · have hd1 : decide (k < 1) = false := decide_eq_false h1
        have hd2 : decide (64 < k) = true := decide_eq_true (by omega)
        clear hk h1
        go_enter Try.func43, Try.ntmps43
        go_wp2_with (first | (go_at_call 33; refine HC.out.mono ?_; rintro e w3 ⟨rfl, hb3⟩; have HB3 := hid hb3))
        go_ret2
        exact join_none hJ.out HB3.out
  · have hJ := hid (join_e1 (k := k) h0)
    generalize blksErr bs = e0 at h0 HC hJ
    generalize hN : bs.length = N at *
    clear r hN
    go_enter Try.func43, Try.ntmps43
    go_wp2_with (first | (go_at_call 33; refine HC.out.mono ?_; rintro e w3 ⟨rfl, hb3⟩; have HB3 := hid hb3))
    go_ret2
    exact join_none hJ.out HB3.out
set_option maxRecDepth 100000 in
set_option maxHeartbeats 1000000 in
/-- Two lists of the same lines. -/
theorem sameLists_any (xs ys : List Ln) (Aa Ab : Option Addr) (ca cb : Nat) (hs : sig xs = sig ys) (hx : xs.length ≤ 1000000) (hl : ∀ t ∈ xs, t.2.2.length ≤ 1000000) (w : World) (B : Nat) (ra : Lns w B Aa xs) (rb : Lns w B Ab ys) :
    Calls Try.prog 44 #[.slice Aa xs.length ca, .slice Ab ys.length cb] w fun e w' => e = .returned (.bool true) ∧ ∃ n, w' = w.drewN n := by
  have hlen : ys.length = xs.length := by have := congrArg List.length hs; simpa [sig] using this.symm
  obtain ⟨n, hn⟩ : ∃ n, n = xs.length := ⟨_, rfl⟩
  rw [hlen, ← hn]
  have HN := hid hn; have HLE := hid hlen; have HS := hid hs; have HL := hid hl; have Ra := hid ra; have Rb := hid rb
  have hn6 : n ≤ 1000000 := by omega
  clear hn hlen hs hl ra rb hx
  go_enter Try.func44, Try.ntmps44
  go_wp2_with fail
  go_loopw [5] (fun i wr => ∃ k : Nat, k ≤ n ∧ i = .int .i64 k ∧ ∃ q, wr = w.drewN q) (fun i _ => n - (intOf i).toNat)
  case atStart => exact ⟨0, by omega, rfl, 0, rfl⟩
  case round =>
    obtain ⟨k, hk, rfl, q, rfl⟩ := hrel
    by_cases hkn : k < n
    · have hkx : k < xs.length := by rw [← HN.out]; exact hkn
      have hky : k < ys.length := by rw [HLE.out]; exact hkx
      obtain ⟨ba, oa, rfl, _, hca⟩ := Ra.out.at (by omega)
      obtain ⟨bb, ob_, rfl, _, hcb⟩ := Rb.out.at (by omega)
      have p5 := hca k hkx
      have p6 := hcb k hky
      have r5 := Ra.out.ln _ (List.getElem_mem hkx)
      have r6 := Rb.out.ln _ (List.getElem_mem hky)
      have l5 := HL.out _ (List.getElem_mem hkx)
      have he : ys[k].2.2 = xs[k].2.2 := by
        have h1 : (sig xs)[k]? = (sig ys)[k]? := by rw [HS.out]
        simp [sig, hkx, hky] at h1
        exact h1.symm
      rw [he] at p6 r6
      generalize xs[k] = x at p5 r5 p6 r6 l5
      generalize ys[k] = y at p6 r6
      obtain ⟨xa, xc, xl⟩ := x
      obtain ⟨ya, yc, yl⟩ := y
      simp only [] at p5 r5 p6 r6 l5
      obtain ⟨w2, hw2⟩ : ∃ w2, w2 = w.drewN q := ⟨_, rfl⟩
      have b2 : Below B w w2 := by rw [hw2]; exact below_drewN (Below.refl _ _) _
      have p5' : w2.cell? ⟨ba, oa + k, none⟩ = some (.slice xa xl.length xc) := by rw [hw2]; exact p5
      have p6' : w2.cell? ⟨bb, ob_ + k, none⟩ = some (.slice ya xl.length yc) := by rw [hw2]; exact p6
      have HSM := hid (fun m => same_any xl xl xa ya xc yc (by omega) (w2.drewN m) B ((r5.below b2).below (below_drewN (Below.refl _ _) _)) ((r6.below b2).below (below_drewN (Below.refl _ _) _)))
      have HW := hid hw2
      rw [← hw2]
      generalize xl.length = m at p5' p6' HSM
      clear p5 p6 r5 r6 hca hcb he hw2 b2 l5 hkx hky
      have hdt : decide (xl = xl) = true := decide_eq_true rfl
      rw [hdt] at HSM
      go_wp2_with fail
      go_quiet ((go_at_call 19; go_must (exact (HSM.out _).mono fun e w' h => ⟨h.1, by obtain ⟨_, n5, hw⟩ := h; exact ⟨_, by rw [hw, World.drewN_drewN]⟩⟩)))
      go_wp2_with fail
      go_roundw
      case rel => exact ⟨k + 1, by omega, by go_num, _, by rw [HW.out]; exact World.drewN_drewN _ _ _⟩
      case measure => simp [intOf]; omega
    · obtain rfl : k = n := by omega
      go_wp2_with fail
      go_ret
      exact ⟨rfl, q, rfl⟩
end Go.Proofs.Ytoljnbbhoeloeaa
