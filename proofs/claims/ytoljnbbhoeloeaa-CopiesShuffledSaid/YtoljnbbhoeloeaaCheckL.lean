/- WALK: the reference's tests of a line, and of two. -/
import Derived.Test.YtoljnbbhoeloeaaCheck
namespace Go.Proofs.Ytoljnbbhoeloeaa
open Go.RowKit
theorem neg_take {l : List Int} {k : Nat} (hk : k < l.length) (h : ∀ x ∈ l.take k, ¬ x < 0) (hn : ¬ nth l k < 0) : ∀ x ∈ l.take (k + 1), ¬ x < 0 := by
  intro x hx
  rw [List.take_add_one, List.getElem?_eq_getElem hk] at hx
  rcases List.mem_append.1 hx with hx | hx
  · exact h x hx
  · simp at hx
    subst hx
    simpa [nth, List.getD, hk] using hn
theorem lineErr_neg {l : List Int} {k : Nat} (hl : l.length ≤ 60) (hk : k < l.length) (hn : nth l k < 0) : lineErr l = 23 := by
  rw [lineErr, if_neg (by omega), if_pos]
  rw [List.any_eq_true]
  exact ⟨l[k], List.getElem_mem hk, by simpa [nth, List.getD, hk] using hn⟩
theorem lineErr_good {l : List Int} (hl : l.length ≤ 60) (h : ∀ x ∈ l, ¬ x < 0) : lineErr l = 0 := by
  rw [lineErr, if_neg (by omega), if_neg]
  rw [List.any_eq_true]
  rintro ⟨x, hx, h2⟩
  exact h x hx (by simpa using h2)
set_option maxRecDepth 100000 in
set_option maxHeartbeats 1000000 in
theorem checkLine_any (l : List Int) (A : Option Addr) (c : Nat) (w : World) (B : Nat) (r : Rd w B A l) :
    Calls Try.prog 51 #[.slice A l.length c] w fun e w' => e = .returned (.int .i64 (lineErr l)) ∧ ∃ q, w' = w.drewN q := by
  obtain ⟨n, hn⟩ : ∃ n, n = l.length := ⟨_, rfl⟩
  rw [← hn]
  have R := hid r; clear r
  have Hn := hid hn; clear hn
  go_enter Try.func51, Try.ntmps51
  by_cases h60 : 60 < n
  · have he : lineErr l = 2 := if_pos (by rw [← Hn.out]; exact h60)
    have hd : decide ((60 : Int) < (n : Int)) = true := by simp; omega
    have He := hid he; clear he h60
    go_wp2_with fail
    go_ret
    exact ⟨by rw [He.out]; rfl, 0, rfl⟩
  · have hd : decide ((60 : Int) < (n : Int)) = false := by simp; omega
    have hn60 : n ≤ 60 := by omega
    clear h60
    go_wp2_with fail
    go_loopw [3] (fun i wr => ∃ k : Nat, k ≤ n ∧ i = .int .i64 k ∧ Hid (∀ x ∈ l.take k, ¬ x < 0) ∧ ∃ q, wr = w.drewN q) (fun i _ => n - (intOf i).toNat)
    case atStart => exact ⟨0, by omega, rfl, (fun x hx => by simp at hx), 0, rfl⟩
    case round =>
      obtain ⟨k, hk, rfl, hE, q, rfl⟩ := hrel
      by_cases hkn : k < n
      · obtain ⟨b, o, rfl, _, hc⟩ := R.out.at (by rw [← Hn.out]; omega)
        have p5 := hc k (by rw [← Hn.out]; exact hkn)
        clear hc
        by_cases hneg : nth l k < 0
        · have he := lineErr_neg (by rw [← Hn.out]; exact hn60) (by rw [← Hn.out]; exact hkn) hneg
          have He := hid he; clear he
          have hd2 : decide (nth l k < 0) = true := by simp [hneg]
          go_wp2_with fail
          go_ret
          exact ⟨by rw [He.out]; rfl, q, rfl⟩
        · have hE2 := neg_take (by rw [← Hn.out]; exact hkn) hE.out hneg
          have HE2 := hid hE2; clear hE2 hE
          have hd2 : decide (nth l k < 0) = false := by simp only [hneg, decide_false]
          go_wp2_with fail
          go_roundw
          case rel => exact ⟨k + 1, by omega, by go_num, HE2.out, q, rfl⟩
          case measure => simp [intOf]; omega
      · obtain rfl : k = n := by omega
        have he := lineErr_good (l := l) (by rw [← Hn.out]; exact hn60) (fun x hx => hE.out x (by rw [List.take_of_length_le (by rw [Hn.out]; exact Nat.le_refl _)]; exact hx))
        have He := hid he; clear he hE
        go_wp2_with fail
        go_ret
        exact ⟨by rw [He.out]; rfl, q, rfl⟩
set_option maxRecDepth 100000 in
theorem checkTwo_any (a b : List Int) (Aa Ab : Option Addr) (ca cb : Nat) (w : World) (B : Nat) (ra : Rd w B Aa a) (rb : Rd w B Ab b) :
    Calls Try.prog 59 #[.slice Aa a.length ca, .slice Ab b.length cb] w fun e w' => e = .returned (.int .i64 (linesErr [a, b])) ∧ ∃ q, w' = w.drewN q := by
  have h1 := fun w' (r : Rd w' B Aa a) => checkLine_any a Aa ca w' B r
  have h2 := fun w' (r : Rd w' B Ab b) => checkLine_any b Ab cb w' B r
  have he : linesErr [a, b] = if lineErr a = 0 then lineErr b else lineErr a := by
    simp only [linesErr]
    by_cases h : lineErr b = 0 <;> simp [h]
  rw [he]
  clear he
  generalize lineErr a = x at *
  generalize lineErr b = y at *
  have H1 := hid h1; have H2 := hid h2; have Ra := hid ra; have Rb := hid rb; clear h1 h2 ra rb
  by_cases hx : x = 0
  · subst hx
    rw [if_pos rfl]
    go_enter Try.func59, Try.ntmps59
    go_wp2_with fail
    refine (H1.out w Ra.out).mono ?_
    rintro e w1 ⟨rfl, q, rfl⟩
    go_wp2_with fail
    refine (H2.out (w.drewN q) (show Rd (w.drewN q) B Ab b from Rb.out)).mono ?_
    rintro e w1 ⟨rfl, q2, rfl⟩
    go_wp2_with fail
    go_ret
    exact ⟨rfl, _, by first | rfl | exact World.drewN_drewN _ _ _⟩
  · rw [if_neg hx]
    go_enter Try.func59, Try.ntmps59
    go_wp2_with fail
    refine (H1.out w Ra.out).mono ?_
    rintro e w1 ⟨rfl, q, rfl⟩
    go_wp2_with fail
    go_ret
    exact ⟨rfl, q, rfl⟩
end Go.Proofs.Ytoljnbbhoeloeaa
