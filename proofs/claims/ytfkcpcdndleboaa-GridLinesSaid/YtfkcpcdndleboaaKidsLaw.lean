/- ostraconlaw01.SameInts. -/
import Derived.Test.YtfkcpcdndleboaaSameT
import Derived.Test.YtfkcpcdndleboaaArgsD
import Derived.Test.YtfkcpcdndleboaaChk1
import Derived.Test.YtfkcpcdndleboaaChk2
namespace Go.Proofs.Ytfkcpcdndleboaa
open Go.RowKit
theorem ints_eq {a b : List Int} (hl : a.length = b.length) (h : ∀ i, i < a.length → nth a i = nth b i) : a = b := by
  refine List.ext_getElem hl fun i ha hb => ?_
  have := h i ha
  unfold nth at this
  rw [List.getD_eq_getElem?_getD, List.getD_eq_getElem?_getD, List.getElem?_eq_getElem ha, List.getElem?_eq_getElem hb] at this
  exact this
set_option maxRecDepth 100000 in
set_option maxHeartbeats 2000000 in
theorem sameInts_any (a b : List Int) (Aa Ab : Option Addr) (ca cb : Nat) (ha : a.length ≤ 1000000) (_hb : b.length ≤ 1000000) (w : World) (B : Nat) (ra : Rd w B Aa a) (rb : Rd w B Ab b) :
    Calls Try.prog 30 #[.slice Aa a.length ca, .slice Ab b.length cb] w (BoolIs (a = b) w) := by
  have RA := hid ra; have RB := hid rb
  obtain ⟨n, hn⟩ : ∃ n, n = a.length := ⟨_, rfl⟩
  obtain ⟨m, hm⟩ : ∃ m, m = b.length := ⟨_, rfl⟩
  have HEQ := hid (fun (h1 : n = m) (h2 : ∀ i, i < n → nth a i = nth b i) => ints_eq (a := a) (b := b) (by omega) (by rw [← hn]; exact h2))
  have HNE := hid (fun (h1 : n ≠ m) (h2 : a = b) => h1 (by rw [hn, hm, h2]))
  have HNI := hid (fun (i : Nat) (h1 : nth a i ≠ nth b i) (h2 : a = b) => h1 (by rw [h2]))
  rw [← hn] at ha ⊢
  rw [← hm] at _hb ⊢
  have HN := hid hn; have HM := hid hm
  have HBW : Hid (∀ q, Below w.heap.size w (w.drewN q)) := fun q => below_drewN (Below.refl _ _) q
  clear hn hm ra rb
  go_enter Try.func30, Try.ntmps30
  by_cases hnm : n = m
  · have f0 : ((n : Int) != (m : Int)) = false := by simp [hnm]
    have f1 : (n != m) = false := by simp [hnm]
    have HQ := hid (HEQ.out hnm)
    have hnm2 := hid hnm
    clear HNE HEQ hnm
    go_wp2_with fail
    go_loopw [5] (fun kv wr => ∃ k : Nat, k ≤ n ∧ kv = .int .i64 k ∧ Hid (∀ i, i < k → nth a i = nth b i) ∧ ∃ q, wr = w.drewN q) (fun kv _ => n - (intOf kv).toNat)
    case atStart => exact ⟨0, by omega, rfl, hid (fun i h => by omega), 0, rfl⟩
    case round =>
      obtain ⟨k, hk, rfl, hP, q, rfl⟩ := hrel
      by_cases hkn : k < n
      · have hq1 : (k : Int) < (n : Int) := by omega
        have hq2 : (k : Int) < (m : Int) := by rw [← hnm2.out]; exact hq1
        obtain ⟨b1, o1, rfl, _, hc1⟩ := RA.out.at (by rw [← HN.out]; omega)
        obtain ⟨b2, o2, rfl, _, hc2⟩ := RB.out.at (by rw [← HM.out, ← hnm2.out]; omega)
        have d1 := hc1 k (by rw [← HN.out]; exact hkn)
        have e1 := hc2 k (by rw [← HM.out, ← hnm2.out]; exact hkn)
        have hno := HNI.out k
        have hyes : nth a k = nth b k → ∀ i, i < k + 1 → nth a i = nth b i := fun h i hi => by
          rcases Nat.eq_or_lt_of_le (Nat.le_of_lt_succ hi) with rfl | h3
          · exact h
          · exact hP.out i h3
        generalize nth a k = x at d1 hno hyes
        generalize nth b k = y at e1 hno hyes
        have HY := hid hyes; have HN2 := hid hno
        clear hc1 hc2 hno hyes hP
        by_cases hxy : x = y
        · have HX := hid (HY.out hxy)
          have f2 : (x != y) = false := by simp [hxy]
          clear HY HN2 hxy
          go_wp2_with fail
          go_quiet (fail)
          go_wp2_with fail
          go_roundw
          case rel => exact ⟨k + 1, by omega, by go_num, HX.out, _, by first | rfl | exact World.drewN_drewN _ _ _⟩
          case measure => simp [intOf]; omega
        · have HX := hid (HN2.out hxy)
          have f2 : (x != y) = true := by simp [hxy]
          clear HY HN2 hxy
          go_wp2_with fail
          go_quiet (fail)
          go_wp2_with fail
          go_ret
          exact ⟨⟨_, rfl, iff_of_false (by simp) HX.out⟩, by first | exact HBW.out _ | (rw [World.drewN_drewN]; exact HBW.out _)⟩
      · obtain rfl : k = n := by omega
        have HX := hid (HQ.out fun i hi => hP.out i hi)
        clear hP
        go_wp2_with fail
        go_ret
        exact ⟨⟨_, rfl, iff_of_true (by simp) HX.out⟩, HBW.out _⟩
  · have HX := hid (HNE.out hnm)
    have f0 : ((n : Int) != (m : Int)) = true := by rw [bne_iff_ne]; omega
    have f1 : (n != m) = true := by rw [bne_iff_ne]; exact hnm
    clear hnm
    go_wp2_with fail
    all_goals first | (go_ret; exact ⟨⟨_, rfl, iff_of_false (by simp) HX.out⟩, HBW.out 0⟩) | (exfalso; omega)
end Go.Proofs.Ytfkcpcdndleboaa

/- WALK: the law GroupsKids. -/
namespace Go.Proofs.Ytfkcpcdndleboaa
open Go.RowKit
end Go.Proofs.Ytfkcpcdndleboaa
