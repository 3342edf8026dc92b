/- WALK: the tests of two tallies. -/
import Derived.Test.YtoljnbbhoeloeaaGcd
namespace Go.Proofs.Ytoljnbbhoeloeaa
open Go.RowKit
/-- Two tallies that may be tested. -/
def Fair (a1 a2 b1 b2 : Int) : Prop := 0 ≤ a1 ∧ 0 ≤ a2 ∧ 0 ≤ b1 ∧ 0 ≤ b2 ∧ a1 + a2 + b1 + b2 ≤ 60
instance (a1 a2 b1 b2 : Int) : Decidable (Fair a1 a2 b1 b2) := by unfold Fair; exact inferInstance
def fairB (a1 a2 b1 b2 : Int) : Bool := decide (Fair a1 a2 b1 b2)
theorem fairB_true {a1 a2 b1 b2 : Int} (h : Fair a1 a2 b1 b2) : fairB a1 a2 b1 b2 = true := decide_eq_true h
theorem fairB_false {a1 a2 b1 b2 : Int} (h : ¬ Fair a1 a2 b1 b2) : fairB a1 a2 b1 b2 = false := decide_eq_false h
/-- The value of a tally. -/
def tally (x y : Int) : Value := .agg #[.int .i64 x, .int .i64 y]
def el4 (a b c d : Int) : Nat → Int | 0 => a | 1 => b | 2 => c | _ => d
def sum4 (a b c d : Int) : Nat → Int | 0 => 0 | 1 => a | 2 => a + b | 3 => a + b + c | _ => a + b + c + d
theorem sum4_succ (a b c d : Int) (k : Nat) (h : k < 4) : sum4 a b c d (k + 1) = sum4 a b c d k + el4 a b c d k := by
  match k, h with
  | 0, _ => simp [sum4, el4]
  | 1, _ => rfl
  | 2, _ => rfl
  | 3, _ => rfl

theorem sum4_bd {a b c d : Int} {k : Nat} (h : ∀ j, j < k → 0 ≤ el4 a b c d j ∧ el4 a b c d j ≤ 60) (hk : k < 4) : -1000 ≤ sum4 a b c d k ∧ sum4 a b c d k ≤ 1000 := by
  match k, hk with
  | 0, _ => simp [sum4]
  | 1, _ => have h0 := h 0 (by omega); simp only [sum4, el4] at *; omega
  | 2, _ => have h0 := h 0 (by omega); have h1 := h 1 (by omega); simp only [sum4, el4] at *; omega
  | 3, _ => have h0 := h 0 (by omega); have h1 := h 1 (by omega); have h2 := h 2 (by omega); simp only [sum4, el4] at *; omega
theorem fair_el {a b c d : Int} (h : Fair a b c d) (k : Nat) (hk : k < 4) : 0 ≤ el4 a b c d k ∧ el4 a b c d k ≤ 60 := by
  obtain ⟨h1, h2, h3, h4, h5⟩ := h
  match k, hk with
  | 0, _ => simp only [el4]; omega
  | 1, _ => simp only [el4]; omega
  | 2, _ => simp only [el4]; omega
  | 3, _ => simp only [el4]; omega
theorem fair_sum {a b c d : Int} (h : ∀ j, j < 4 → 0 ≤ el4 a b c d j ∧ el4 a b c d j ≤ 60) : decide (sum4 a b c d 4 ≤ 60) = fairB a b c d := by
  have h0 := h 0 (by omega); have h1 := h 1 (by omega); have h2 := h 2 (by omega); have h3 := h 3 (by omega)
  simp only [sum4, el4] at *
  unfold fairB Fair
  congr 1
  apply propext
  omega
theorem ix4_0 (a b c d : Int) (w : World) : (Instr.index 127 (.agg #[.int .i64 a, .int .i64 b, .int .i64 c, .int .i64 d]) (.int .i64 (0))).run Try.prog w = .ok (.int .i64 a) w := by kernel_rfl
theorem ix4_1 (a b c d : Int) (w : World) : (Instr.index 127 (.agg #[.int .i64 a, .int .i64 b, .int .i64 c, .int .i64 d]) (.int .i64 (1))).run Try.prog w = .ok (.int .i64 b) w := by kernel_rfl
theorem ix4_2 (a b c d : Int) (w : World) : (Instr.index 127 (.agg #[.int .i64 a, .int .i64 b, .int .i64 c, .int .i64 d]) (.int .i64 (2))).run Try.prog w = .ok (.int .i64 c) w := by kernel_rfl
theorem ix4_3 (a b c d : Int) (w : World) : (Instr.index 127 (.agg #[.int .i64 a, .int .i64 b, .int .i64 c, .int .i64 d]) (.int .i64 (3))).run Try.prog w = .ok (.int .i64 d) w := by kernel_rfl
theorem ix4 {a b c d : Int} (k : Nat) (hk : k < 4) (w : World) : (Instr.index 127 (.agg #[.int .i64 a, .int .i64 b, .int .i64 c, .int .i64 d]) (.int .i64 (k))).run Try.prog w = .ok (.int .i64 (el4 a b c d k)) w := by
  match k, hk with
  | 0, _ => exact ix4_0 a b c d w
  | 1, _ => exact ix4_1 a b c d w
  | 2, _ => exact ix4_2 a b c d w
  | 3, _ => exact ix4_3 a b c d w

set_option maxRecDepth 100000 in
set_option maxHeartbeats 400000 in
theorem fair_any (a1 a2 b1 b2 : Int) (w : World) :
    Calls Try.prog 53 #[.agg #[.int .i64 a1, .int .i64 a2], .agg #[.int .i64 b1, .int .i64 b2]] w fun e w' => e = .returned (.bool (fairB a1 a2 b1 b2)) ∧ Below w.heap.size w w' := by
  go_enter Try.func53, Try.ntmps53
  go_wp2_with fail
  go_loop [5, 17] (fun t i => ∃ k : Nat, k ≤ 4 ∧ i = .int .i64 k ∧ t = .int .i64 (sum4 a1 a2 b1 b2 k) ∧ (∀ j, j < k → 0 ≤ el4 a1 a2 b1 b2 j ∧ el4 a1 a2 b1 b2 j ≤ 60)) (fun _ i => 4 - (intOf i).toNat)
  case atStart => exact ⟨0, by omega, rfl, rfl, fun j hj => by omega⟩
  case round =>
    obtain ⟨k, hk, rfl, rfl, hall⟩ := hrel
    have Hall := hid hall; clear hall
    by_cases hlt : k < 4
    · have hs : -1000 ≤ sum4 a1 a2 b1 b2 k ∧ sum4 a1 a2 b1 b2 k ≤ 1000 := sum4_bd Hall.out hlt
      have hss := sum4_succ a1 a2 b1 b2 k hlt
      have Hss := hid hss; clear hss
      obtain ⟨hs1, hs2⟩ := hs
      have hix : ∀ w, (Instr.index 127 (.agg #[.int .i64 a1, .int .i64 a2, .int .i64 b1, .int .i64 b2]) (.int .i64 k)).run Try.prog w = .ok (.int .i64 (el4 a1 a2 b1 b2 k)) w := fun w => ix4 k hlt w
      by_cases hel : 0 ≤ el4 a1 a2 b1 b2 k ∧ el4 a1 a2 b1 b2 k ≤ 60
      · have hd : decide (0 ≤ el4 a1 a2 b1 b2 k ∧ el4 a1 a2 b1 b2 k ≤ 60) = true := decide_eq_true hel
        obtain ⟨hel1, hel2⟩ := hel
        go_wp2_with (go_at_call 61; refine (within_any _ _ _ _).mono ?_; rintro e w' ⟨rfl, rfl⟩)
        go_round
        case rel => exact ⟨k + 1, by omega, by go_num, by rw [Hss.out], fun j hj => by
          rcases Nat.lt_or_ge j k with h | h
          · exact Hall.out j h
          · obtain rfl : j = k := by omega
            exact ⟨hel1, hel2⟩⟩
        case measure => simp [intOf]; omega
      · have hd : decide (0 ≤ el4 a1 a2 b1 b2 k ∧ el4 a1 a2 b1 b2 k ≤ 60) = false := decide_eq_false hel
        go_wp2_with (go_at_call 61; refine (within_any _ _ _ _).mono ?_; rintro e w' ⟨rfl, rfl⟩)
        go_ret
        exact ⟨by rw [fairB_false (fun hf => hel (fair_el hf k hlt))]; rfl, ((Below.refl _ _).alloc (Nat.le_refl _) _).alloc (by simp) _⟩
    · obtain rfl : k = 4 := by omega
      have hfin : decide (sum4 a1 a2 b1 b2 4 ≤ 60) = fairB a1 a2 b1 b2 := fair_sum Hall.out
      go_wp2
      go_ret
      exact ⟨by rw [← hfin]; rfl, ((Below.refl _ _).alloc (Nat.le_refl _) _).alloc (by simp) _⟩

/-- The four cells of the literal slice. -/
def cells4 (a b c d : Int) : Array Value := #[.int .i64 a, .int .i64 b, .int .i64 c, .int .i64 d]
theorem cells4_get {a b c d : Int} (k : Nat) (hk : k < 4) : ([Value.int .i64 a, .int .i64 b, .int .i64 c, .int .i64 d] : List Value)[k]'(by simpa using hk) = .int .i64 (el4 a b c d k) := by
  match k, hk with
  | 0, _ => rfl
  | 1, _ => rfl
  | 2, _ => rfl
  | 3, _ => rfl
set_option maxRecDepth 100000 in
set_option maxHeartbeats 400000 in
theorem good_any (a1 a2 b1 b2 : Int) (w : World) :
    Calls Try.prog 55 #[.agg #[.int .i64 a1, .int .i64 a2], .agg #[.int .i64 b1, .int .i64 b2]] w fun e w' => e = .returned (.bool (fairB a1 a2 b1 b2)) ∧ Below w.heap.size w w' := by
  go_enter Try.func55, Try.ntmps55
  go_wp2_with fail
  go_loop [5, 18] (fun t i => ∃ k : Nat, k ≤ 4 ∧ i = .int .i64 k ∧ t = .int .i64 (sum4 a1 a2 b1 b2 k) ∧ (∀ j, j < k → 0 ≤ el4 a1 a2 b1 b2 j ∧ el4 a1 a2 b1 b2 j ≤ 60)) (fun _ i => 4 - (intOf i).toNat)
  case atStart => exact ⟨0, by omega, rfl, rfl, fun j hj => by omega⟩
  case round =>
    obtain ⟨k, hk, rfl, rfl, hall⟩ := hrel
    have Hall := hid hall; clear hall
    by_cases hlt : k < 4
    · obtain ⟨hs1, hs2⟩ : -1000 ≤ sum4 a1 a2 b1 b2 k ∧ sum4 a1 a2 b1 b2 k ≤ 1000 := sum4_bd Hall.out hlt
      have hss := sum4_succ a1 a2 b1 b2 k hlt
      have Hss := hid hss; clear hss
      have hix := cells4_get (a := a1) (b := a2) (c := b1) (d := b2) k hlt
      by_cases hel1 : 0 ≤ el4 a1 a2 b1 b2 k
      · by_cases hel2 : el4 a1 a2 b1 b2 k ≤ 60
        · go_wp2_with fail
          go_round
          case rel => exact ⟨k + 1, by omega, by go_num, by rw [Hss.out], fun j hj => by
            rcases Nat.lt_or_ge j k with h | h
            · exact Hall.out j h
            · obtain rfl : j = k := by omega
              exact ⟨hel1, hel2⟩⟩
          case measure => simp [intOf]; omega
        · go_wp2_with fail
          go_ret
          exact ⟨by rw [fairB_false (fun hf => by have := fair_el hf k hlt; omega)]; rfl, (((Below.refl _ _).alloc (Nat.le_refl _) _).alloc (by simp) _).alloc (by simp; omega) _⟩
      · go_wp2_with fail
        go_ret
        exact ⟨by rw [fairB_false (fun hf => by have := fair_el hf k hlt; omega)]; rfl, (((Below.refl _ _).alloc (Nat.le_refl _) _).alloc (by simp) _).alloc (by simp; omega) _⟩
    · obtain rfl : k = 4 := by omega
      have hfin : decide (sum4 a1 a2 b1 b2 4 ≤ 60) = fairB a1 a2 b1 b2 := fair_sum Hall.out
      go_wp2
      go_ret
      exact ⟨by rw [← hfin]; rfl, (((Below.refl _ _).alloc (Nat.le_refl _) _).alloc (by simp) _).alloc (by simp; omega) _⟩
end Go.Proofs.Ytoljnbbhoeloeaa
