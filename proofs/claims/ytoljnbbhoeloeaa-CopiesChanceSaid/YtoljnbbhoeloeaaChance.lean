/- WALK: the law CopiesChance. -/
import Derived.Test.YtoljnbbhoeloeaaChanceL
import Derived.Test.YtoljnbbhoeloeaaWorksW
namespace Go.Proofs.Ytoljnbbhoeloeaa
open Go.RowKit
set_option maxRecDepth 100000 in
set_option maxHeartbeats 2000000 in
theorem chance_any (a1 a2 b1 b2 : Int) (w : World) : Calls Try.prog 5 #[.agg #[.int .i64 a1, .int .i64 a2], .agg #[.int .i64 b1, .int .i64 b2]] w fun e w' => e = .returned (.bool true) ∧ Below w.heap.size w w' := by
  have hF := fun w' => fisher_call a1 a2 b1 b2 w'
  have hG := fun w' => fisher_call b1 b2 a1 a2 w'
  have hK := fun w' => fisher_call a2 a1 b2 b1 w'
  rw [fRes_swap] at hG
  rw [fRes_turn] at hK
  have hS : (fErr a1 a2 b1 b2 = 0 ∧ ∃ n d : Nat, fNumI a1 a2 b1 b2 = n ∧ fDenI a1 a2 b1 b2 = d ∧ 1 ≤ n ∧ n ≤ d ∧ d ≤ 2 ^ 60 ∧ Nat.gcd n d = 1 ∧
      (d = 1 ∨ (a1 + b1 ≠ 0 ∧ a2 + b2 ≠ 0 ∧ a1 + a2 ≠ 0 ∧ b1 + b2 ≠ 0 ∧ ¬ (a1 = b1 ∧ a2 = b2))) ∧ 0 ≤ a1 ∧ 0 ≤ a2 ∧ 0 ≤ b1 ∧ 0 ≤ b2 ∧ a1 + a2 + b1 + b2 ≤ 60) ∨ fErr a1 a2 b1 b2 = 80 := by
    by_cases h : Fair a1 a2 b1 b2
    · obtain ⟨n, d, h1, h2, h3, h4, h5, h6, h7⟩ := fair_says h
      refine .inl ⟨fErr_fair h, n, d, h1, h2, h3, h4, h5, h6, ?_, h⟩
      by_cases hd : d = 1
      · exact .inl hd
      · exact .inr ⟨fun g => hd (h7 (.inl g)), fun g => hd (h7 (.inr (.inl g))), fun g => hd (h7 (.inr (.inr (.inl g)))), fun g => hd (h7 (.inr (.inr (.inr (.inl g))))), fun g => hd (h7 (.inr (.inr (.inr (.inr g)))))⟩
    · exact .inr (fI_unfair h).2.2
  unfold fRes at hF hG hK
  generalize fNumI a1 a2 b1 b2 = p at hF hG hK hS
  generalize fDenI a1 a2 b1 b2 = q at hF hG hK hS
  generalize fErr a1 a2 b1 b2 = r at hF hG hK hS
  have HF := hid hF; have HG := hid hG; have HK := hid hK; have HS := hid hS; clear hF hG hK hS
  go_enter Try.func5, Try.ntmps5
  go_wp2_with fail
  refine (HF.out _).mono ?_
  rintro e w1 ⟨rfl, hb1⟩
  have hz := hb1.size
  simp at hz
  have k0 : w1.cell? ⟨w.heap.size, 0, none⟩ = some (.int .i64 a1) := by rw [(bcell hb1).1 _ _ (by simp; omega)]; simp [go_sem]
  have k1 : w1.cell? ⟨w.heap.size, 1, none⟩ = some (.int .i64 a2) := by rw [(bcell hb1).1 _ _ (by simp; omega)]; simp [go_sem]
  have k2 : w1.cell? ⟨w.heap.size + 1, 0, none⟩ = some (.int .i64 b1) := by rw [(bcell hb1).1 _ _ (by simp)]; simp [go_sem]
  have k3 : w1.cell? ⟨w.heap.size + 1, 1, none⟩ = some (.int .i64 b2) := by rw [(bcell hb1).1 _ _ (by simp)]; simp [go_sem]
  have hs1 : w.heap.size + 1 < w1.heap.size := by omega
  have hs0 : w.heap.size < w1.heap.size := by omega
  have hbel : Below w.heap.size w w1 := by
    refine Below.trans ?_ (hb1.mono (by simp; omega))
    exact ((Below.refl _ _).alloc (Nat.le_refl _) _).alloc (by simp) _
  have Hbel := hid hbel
  clear hb1 hbel hz
  go_wp2_with fail
  refine (HG.out _).mono ?_
  rintro e w2 ⟨rfl, hb2⟩
  have hz := hb2.size
  simp at hz
  have up : ∀ b o, b < w1.heap.size → w2.cell? ⟨b, o, none⟩ = w1.cell? ⟨b, o, none⟩ := fun b o h => by rw [(bcell hb2).1 _ _ (by simp; omega)]; simp [go_sem, h]
  have j0 : w2.cell? ⟨w1.heap.size, 0, none⟩ = some (.int .i64 p) := by rw [(bcell hb2).1 _ _ (by simp)]; simp [go_sem]
  have j1 : w2.cell? ⟨w1.heap.size, 1, none⟩ = some (.int .i64 q) := by rw [(bcell hb2).1 _ _ (by simp)]; simp [go_sem]
  rw [← up _ _ hs0] at k0 k1
  rw [← up _ _ hs1] at k2 k3
  have hs2 : w1.heap.size < w2.heap.size := by omega
  have hs1' : w.heap.size + 1 < w2.heap.size := by omega
  have hs0' : w.heap.size < w2.heap.size := by omega
  have hbel : Below w.heap.size w w2 := Hbel.out.trans ((((Below.refl _ _).alloc (Nat.le_refl _) _).trans (hb2.mono (by simp))).mono Hbel.out.size)
  have Hbel2 := hid hbel
  clear hb2 hbel hz Hbel up hs1 hs0
  go_wp2_with fail
  refine (HK.out _).mono ?_
  rintro e w3 ⟨rfl, hb3⟩
  have hz := hb3.size
  simp at hz
  have up : ∀ b o, b < w2.heap.size → w3.cell? ⟨b, o, none⟩ = w2.cell? ⟨b, o, none⟩ := fun b o h => by rw [(bcell hb3).1 _ _ (by simp; omega)]; simp [go_sem, h]
  have l0 : w3.cell? ⟨w2.heap.size, 0, none⟩ = some (.int .i64 p) := by rw [(bcell hb3).1 _ _ (by simp)]; simp [go_sem]
  have l1 : w3.cell? ⟨w2.heap.size, 1, none⟩ = some (.int .i64 q) := by rw [(bcell hb3).1 _ _ (by simp)]; simp [go_sem]
  rw [← up _ _ hs0'] at k0 k1
  rw [← up _ _ hs1'] at k2 k3
  rw [← up _ _ hs2] at j0 j1
  have hs3 : w2.heap.size < w3.heap.size := by omega
  have hs2' : w1.heap.size < w3.heap.size := by omega
  have hs1'' : w.heap.size + 1 < w3.heap.size := by omega
  have hs0'' : w.heap.size < w3.heap.size := by omega
  have hbel : Below w.heap.size w w3 := Hbel2.out.trans ((((Below.refl _ _).alloc (Nat.le_refl _) _).trans (hb3.mono (by simp))).mono Hbel2.out.size)
  have Hbel3 := hid hbel
  clear hb3 hbel hz Hbel2 up hs1' hs0' hs2 HF HG HK
  rcases HS.out with ⟨rfl, n, d, rfl, rfl, h1, h2, h3, h4, h5, g1, g2, g3, g4, g5⟩ | rfl
  · clear HS
    have q1 : IntKind.i64.wrap (a1 + b1) = a1 + b1 := IntWalk.i64_in _ (by omega)
    have q2 : IntKind.i64.wrap (a2 + b2) = a2 + b2 := IntWalk.i64_in _ (by omega)
    have q3 : IntKind.i64.wrap (a1 + a2) = a1 + a2 := IntWalk.i64_in _ (by omega)
    have q4 : IntKind.i64.wrap (b1 + b2) = b1 + b2 := IntWalk.i64_in _ (by omega)
    have d1 : decide ((n : Int) < 1) = false := by simp; omega
    have d2 : ¬ d < n := by omega
    have d3 : (0 : Int) ≤ n := by omega
    have d4 : (0 : Int) ≤ d := by omega
    have H3 := hid h3; have H4 := hid h4; have H5 := hid h5
    clear h1 h2 h3 h4 h5 g1 g2 g3 g4 g5
    go_wp2_with fail
    go_quiet (fail)
    go_wp2_with fail
    go_loopw [11, 12] (fun x y wr => ∃ u v : Nat, x = .int .i64 u ∧ y = .int .i64 v ∧ Nat.gcd u v = 1 ∧ u ≤ 2 ^ 60 ∧ v ≤ 2 ^ 60 ∧ ∃ q, wr = (w3.alloc (.cells #[.int .i64 n, .int .i64 d] 40)).drewN q) (fun x _ _ => (intOf x).toNat)
    case atStart => exact ⟨n, d, rfl, rfl, H4.out, by have := H3.out; omega, H3.out, _, rfl⟩
    case round =>
      obtain ⟨u, v, rfl, rfl, hg, hu, hv, q, rfl⟩ := hrel
      have Hg := hid hg; clear hg
      by_cases h0 : 0 < u
      · go_wp2_with fail
        have r1 : (1 : Int) ≤ u := by omega
        have r2 : (0 : Int) ≤ v := by omega
        try go_quiet (fail)
        go_wp2_with fail
        go_roundw
        case rel =>
          have hlt := Nat.mod_lt v h0
          first
            | exact ⟨v % u, u, by go_num, rfl, by rw [← Hg.out, ← Nat.gcd_rec], by omega, hu, _, World.drewN_drewN _ _ _⟩
            | exact ⟨v % u, u, by go_num, rfl, by rw [← Hg.out, ← Nat.gcd_rec], by omega, hu, _, rfl⟩
        case measure => simp [intOf]; have := Nat.mod_lt v h0; omega
      · obtain rfl : u = 0 := by omega
        obtain rfl : v = 1 := by have := Hg.out; rwa [Nat.gcd_zero_left] at this
        clear Hg hu hv h0
        rcases H5.out with rfl | ⟨g1, g2, g3, g4, g5⟩
        · clear H5 H3 H4
          go_wp2_with (go_at_call 20; refine (works_any _).mono ?_; rintro e w4 ⟨rfl, hb4⟩; have Hb4 := hid hb4; clear hb4)
          all_goals (go_ret; exact ⟨rfl, (below_drewN (Hbel3.out.alloc Hbel3.out.size _) _).trans (Hb4.out.mono (by have := Hbel3.out.size; simp; omega))⟩)
        · clear H5 H3 H4
          go_wp2_with (go_at_call 20; refine (works_any _).mono ?_; rintro e w4 ⟨rfl, hb4⟩; have Hb4 := hid hb4; clear hb4)
          all_goals (go_ret; exact ⟨rfl, (below_drewN (Hbel3.out.alloc Hbel3.out.size _) _).trans (Hb4.out.mono (by have := Hbel3.out.size; simp; omega))⟩)
  · clear HS
    go_wp2_with fail
    refine (works_any _).mono ?_
    rintro e w4 ⟨rfl, hb4⟩
    have Hb4 := hid hb4; clear hb4
    go_wp2_with fail
    go_ret
    exact ⟨rfl, (Hbel3.out.alloc Hbel3.out.size _).trans (Hb4.out.mono (by have := Hbel3.out.size; simp; omega))⟩
end Go.Proofs.Ytoljnbbhoeloeaa
