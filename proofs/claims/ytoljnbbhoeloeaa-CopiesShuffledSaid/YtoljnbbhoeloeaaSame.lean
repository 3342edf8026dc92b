/- WALK: sameInts. -/
import Derived.Test.YtoljnbbhoeloeaaFisherB
namespace Go.Proofs.Ytoljnbbhoeloeaa
open Go.RowKit
theorem nth_ext {a b : List Int} (hl : a.length = b.length) (h : ∀ j, j < a.length → nth a j = nth b j) : a = b :=
  List.ext_getElem hl fun j h1 h2 => by have := h j h1; simpa [nth, h1, h2] using this
set_option maxRecDepth 100000 in
set_option maxHeartbeats 1000000 in
theorem same_any (a b : List Int) (Aa Ab : Option Addr) (ca cb : Nat) (ha : a.length ≤ 1000000000000) (w : World) (B : Nat) (ra : Rd w B Aa a) (rb : Rd w B Ab b) :
    Calls Try.prog 19 #[.slice Aa a.length ca, .slice Ab b.length cb] w fun e w' => e = .returned (.bool (decide (a = b))) ∧ ∃ n, w' = w.drewN n := by
  by_cases hl : a.length = b.length
  · have hle : (a.length == b.length) = true := by simp [hl]
    obtain ⟨n, hn⟩ : ∃ n, n = a.length := ⟨_, rfl⟩
    have hn2 : n = b.length := hn.trans hl
    rw [← hn, ← hn2]
    have hnn : n ≤ 1000000000000 := by omega
    clear ha
    have Hn := hid hn; have Hn2 := hid hn2; clear hn hn2 hle
    have Hl := hid hl; clear hl
    have Ra := hid ra; have Rb := hid rb; clear ra rb
    go_enter Try.func19, Try.ntmps19
    go_wp2_with fail
    go_loopw [5] (fun i wr => ∃ k : Nat, k ≤ n ∧ i = .int .i64 k ∧ Hid (∀ j, j < k → nth a j = nth b j) ∧ ∃ q, wr = w.drewN q) (fun i _ => n - (intOf i).toNat)
    case atStart => exact ⟨0, by omega, rfl, (fun j hj => by omega), 0, rfl⟩
    case round =>
      obtain ⟨k, hk, rfl, hE, q, rfl⟩ := hrel
      by_cases hkn : k < n
      · obtain ⟨ba, oa, rfl, _, hca⟩ := Ra.out.at (by rw [← Hn.out]; omega)
        obtain ⟨bb, ob_, rfl, _, hcb⟩ := Rb.out.at (by rw [← Hn2.out]; omega)
        have p5 : w.cell? ⟨ba, oa + k, none⟩ = some (.int .i64 (nth a k)) := hca k (by rw [← Hn.out]; exact hkn)
        have p6 : w.cell? ⟨bb, ob_ + k, none⟩ = some (.int .i64 (nth b k)) := hcb k (by rw [← Hn2.out]; exact hkn)
        clear hca hcb
        by_cases heq : nth a k = nth b k
        · have he : (nth a k == nth b k) = true := by simp [heq]
          have hE2 : Hid (∀ j, j < k + 1 → nth a j = nth b j) := fun j hj => by
            rcases Nat.lt_or_ge j k with h | h
            · exact hE.out j h
            · obtain rfl : j = k := by omega
              exact heq
          have Heq := hid heq; clear heq hE
          go_wp2_with fail
          go_quiet (fail)
          go_wp2_with fail
          go_roundw
          case rel => exact ⟨k + 1, by omega, by go_num, hE2, _, by first | rfl | exact World.drewN_drewN _ _ _⟩
          case measure => simp [intOf]; omega
        · have he : (nth a k == nth b k) = false := by simp [heq]
          have hne : ¬ a = b := fun h => heq (by rw [h])
          have Hne := hid hne; clear heq hne hE
          go_wp2_with fail
          go_quiet (fail)
          go_wp2_with fail
          go_ret
          exact ⟨by rw [decide_eq_false Hne.out]; rfl, _, by first | rfl | exact World.drewN_drewN _ _ _⟩
      · obtain rfl : k = n := by omega
        have hab : a = b := nth_ext Hl.out (fun j hj => hE.out j (by rw [Hn.out]; exact hj))
        have Hab := hid hab; clear hab
        go_wp2_with fail
        go_ret
        exact ⟨by rw [decide_eq_true Hab.out]; rfl, q, rfl⟩
  · have hle : (a.length == b.length) = false := by simp [hl]
    have hle2 : ((a.length : Int) == (b.length : Int)) = false := by simp; omega
    have hne : ¬ a = b := fun h => hl (by rw [h])
    have Hne := hid hne; clear hne
    go_enter Try.func19, Try.ntmps19
    go_wp2_with fail
    go_ret
    exact ⟨by rw [decide_eq_false Hne.out]; rfl, 0, rfl⟩
end Go.Proofs.Ytoljnbbhoeloeaa
