/- ostraconlaw02.right. -/
import Derived.Test.YtddbnggficlcfaaArgs
namespace Go.Proofs.Ytddbnggficlcfaa
open Go.RowKit
set_option maxRecDepth 100000 in
set_option maxHeartbeats 4000000 in
theorem rightP_any (P : Int) (ss : List Sg) (l : List Nd) (A A2 : Option Addr) (c c2 : Nat) (hl : ss.length ≤ 9223372036854775807) (hv : ∀ s ∈ ss, s.vals.length ≤ 9223372036854775807) (w : World) (rs : Sgs w w.heap.size A ss) (rn : Nds w w.heap.size A2 l) :
    Calls Try.prog 49 #[.agg #[.int .i64 P, .slice A ss.length c, .slice A2 l.length c2]] w (BoolIs (¬ BigP ss l ∧ chkE P ss l = 0) w) := by
  obtain ⟨r1, hr1⟩ : ∃ x : Bool, (x = true ↔ BigP ss l) := by
    by_cases h : BigP ss l
    · exact ⟨true, iff_of_true rfl h⟩
    · exact ⟨false, iff_of_false (by simp) h⟩
  have hsm := fun h : ¬ BigP ss l => small_of h
  obtain ⟨w1, hw1⟩ : ∃ w1, w1 = w.alloc (.cells #[.int .i64 P, .slice A ss.length c, .slice A2 l.length c2] 29) := ⟨_, rfl⟩
  have hb1 : Below w.heap.size w w1 := by rw [hw1]; exact (Below.refl _ _).alloc (Nat.le_refl _) _
  have hz1 : w.heap.size < w1.heap.size := by rw [hw1]; simp
  have c0 : w1.cell? ⟨w.heap.size, 0, none⟩ = some (.int .i64 P) := by rw [hw1]; exact cell_here rfl rfl
  have c1 : w1.cell? ⟨w.heap.size, 1, none⟩ = some (.slice A ss.length c) := by rw [hw1]; exact cell_here rfl rfl
  have c3 : w1.cell? ⟨w.heap.size, 2, none⟩ = some (.slice A2 l.length c2) := by rw [hw1]; exact cell_here rfl rfl
  have HBG := hid ((bigP_any P ss l A A2 c c2 hl hv w1 ((rs.below hb1).more hb1.size)).mono fun e w' hb => hb.get hr1)
  have HCK := hid fun (s1 : ss.length ≤ 30) (s2 : l.length ≤ 210) (s3 : ∀ s ∈ ss, s.vals.length ≤ 20) (W : World) (h : Below w1.heap.size w1 W) =>
    refCheck_any P ss l (by omega) (fun s hs => by have := s3 s hs; omega) (by omega) A A2 c c2 W ((rs.below (hb1.trans (h.mono hb1.size))).more (Nat.le_trans hb1.size h.size)) ((rn.below (hb1.trans (h.mono hb1.size))).more (Nat.le_trans hb1.size h.size))
  have HBI := hid hr1; have HSM := hid hsm
  generalize chkE P ss l = E at HCK ⊢
  generalize BigP ss l = BB at HBI HSM ⊢
  have HCK2 := hid fun (h : ¬ BB) => HCK.out (HSM.out h).1 (HSM.out h).2.1 (HSM.out h).2.2
  generalize ss.length = N at c1 hw1 HBG HCK2 ⊢
  generalize l.length = n at c3 hw1 HBG HCK2 ⊢
  have HW1 := hid hw1; have HB1 := hid hb1
  have HC0 := hid fun (wr : World) (h : Below w1.heap.size w1 wr) => (h.cell (p := ⟨w.heap.size, 0, none⟩) hz1).trans c0
  have HC1 := hid fun (wr : World) (h : Below w1.heap.size w1 wr) => (h.cell (p := ⟨w.heap.size, 1, none⟩) hz1).trans c1
  have HC3 := hid fun (wr : World) (h : Below w1.heap.size w1 wr) => (h.cell (p := ⟨w.heap.size, 2, none⟩) hz1).trans c3
  have HW : Hid (∀ wr, Below w1.heap.size w1 wr → Below w.heap.size w wr) := fun wr h => hb1.trans (h.mono (by omega))
  clear hw1 rs rn hsm hr1 hv hl hb1 HCK HSM
  go_enter Try.func49, Try.ntmps49
  go_upto_region 1 with (fail)
  rw [← HW1.out]
  clear HW1
  obtain ⟨B0, hB0⟩ : ∃ B0, B0 = w.heap.size := ⟨_, rfl⟩
  rw [← hB0] at c0 c1 c3 hz1 HC0 HC1 HC3 ⊢
  clear hB0
  cases r1 with
  | true =>
    go_wp2_with (first | (go_at_call 15; refine HBG.out.mono ?_; rintro e w2 ⟨rfl, hb2⟩; have HB2 := hid hb2; clear hb2 c0 c1 c3))
    go_ret
    exact ⟨⟨_, rfl, iff_of_false (by simp) (fun h => h.1 (HBI.out.1 (by simp)))⟩, HW.out _ HB2.out⟩
  | false =>
    have hnb : ¬ BB := fun h => by have := HBI.out.2 h; cases this
    replace HCK2 := hid (HCK2.out hnb)
    have HNB := hid hnb
    clear hnb
    go_wp2_with (first | (go_at_call 15; refine HBG.out.mono ?_; rintro e w2 ⟨rfl, hb2⟩; have HB2 := hid hb2; have q0 := HC0.out _ hb2; have q1 := HC1.out _ hb2; have q3 := HC3.out _ hb2; clear hb2 c0 c1 c3) | (go_at_call 20; refine (HCK2.out _ HB2.out).mono ?_; rintro e w3 ⟨rfl, hb3⟩; have HB3 := hid (bnext HB2.out hb3); clear hb3 q0 q1 q3))
    go_ret
    exact ⟨⟨_, rfl, by simp only [beq_iff_eq]; exact ⟨fun h => ⟨HNB.out, h⟩, fun h => h.2⟩⟩, HW.out _ HB3.out⟩
end Go.Proofs.Ytddbnggficlcfaa
