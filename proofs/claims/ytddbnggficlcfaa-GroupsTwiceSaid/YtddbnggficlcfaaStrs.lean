/- STRINGS: bytes, classes of bytes; signs.validCode and ostraconref01.Code. -/
import Derived.Test.YtddbnggficlcfaaUtil
namespace Go.Proofs.Ytddbnggficlcfaa
open Go.RowKit
/-- Byte k of a string. -/
def byt (s : ByteArray) (k : Nat) : Int := if h : k < s.size then ((s[k]'h).toNat : Int) else 0
theorem run_byt (s : ByteArray) (k : Nat) (hk : k < s.size) (W : World) : (Instr.index 9 (.string s) (.int .i64 (k : Int))).run Try.prog W = .ok (.int .u8 (byt s k)) W := by
  rw [run_index_string W 9 s .i64 (k : Int) Try.underlying9, dif_pos ⟨by omega, by omega⟩]
  unfold byt
  rw [dif_pos hk]
  rfl
def upB (c : Int) : Bool := decide (65 ≤ c ∧ c ≤ 90)
def loB (c : Int) : Bool := decide (97 ≤ c ∧ c ≤ 122)
def dgB (c : Int) : Bool := decide (48 ≤ c ∧ c ≤ 57)
def alB (c : Int) : Bool := upB c || loB c || dgB c
theorem all_bad {f : Nat → Bool} {i n : Nat} (hi : i < n) (h : f i = false) : (List.range n).all f = false := by
  rw [Bool.eq_false_iff]
  intro hx
  rw [List.all_eq_true] at hx
  have := hx i (List.mem_range.2 hi)
  rw [h] at this
  cases this
theorem all_s {f : Nat → Bool} {i : Nat} (h : (List.range i).all f = true) (h2 : f i = true) : (List.range (i + 1)).all f = true := by
  rw [List.range_succ, List.all_append, h]
  simp [h2]
theorem all_get {f : Nat → Bool} {i n : Nat} (h : (List.range n).all f = true) (hi : i < n) : f i = true := by
  rw [List.all_eq_true] at h
  exact h i (List.mem_range.2 hi)
/-- A valid code. -/
def allTo (p : Int → Bool) (s : ByteArray) (k : Nat) : Bool := (List.range k).all fun j => p (byt s j)
def codeB (s : ByteArray) : Bool := decide (1 ≤ s.size) && decide (s.size ≤ 8) && upB (byt s 0) && allTo alB s s.size
theorem code_no1 {s : ByteArray} (h : s.size < 1) : codeB s = false := by unfold codeB; rw [decide_eq_false (by omega)]; rfl
theorem code_no2 {s : ByteArray} (h : 8 < s.size) : codeB s = false := by unfold codeB; rw [decide_eq_false (show ¬ s.size ≤ 8 by omega)]; simp
theorem code_no3 {s : ByteArray} (h : upB (byt s 0) = false) : codeB s = false := by unfold codeB; rw [h]; simp
theorem code_no4 {s : ByteArray} {k : Nat} (hk : k < s.size) (h : alB (byt s k) = false) : codeB s = false := by
  unfold codeB allTo
  rw [all_bad hk h]
  simp
theorem code_yes {s : ByteArray} (h1 : 1 ≤ s.size) (h2 : s.size ≤ 8) (h3 : upB (byt s 0) = true) (h4 : allTo alB s s.size = true) : codeB s = true := by
  unfold codeB
  rw [h3, h4, decide_eq_true h1, decide_eq_true h2]
  rfl
set_option maxRecDepth 100000 in
set_option maxHeartbeats 2000000 in
theorem validCode_any (s : ByteArray) (w : World) :
    Calls Try.prog 83 #[.string s] w fun e w' => e = .returned (.bool (codeB s)) ∧ w = w' := by
  by_cases h1 : s.size < 1
  · have e1 : decide ((s.size : Int) < 1) = true := decide_eq_true (by omega)
    have HX := hid (code_no1 h1)
    go_enter Try.func83, Try.ntmps83
    go_wp2_with fail
    go_ret
    exact ⟨by rw [HX.out]; rfl, rfl⟩
  · have e1 : decide ((s.size : Int) < 1) = false := decide_eq_false (by omega)
    by_cases h2 : 8 < s.size
    · have e2 : decide ((8 : Int) < (s.size : Int)) = true := decide_eq_true (by omega)
      have HX := hid (code_no2 h2)
      go_enter Try.func83, Try.ntmps83
      go_wp2_with fail
      go_ret
      exact ⟨by rw [HX.out]; rfl, rfl⟩
    · have e2 : decide ((8 : Int) < (s.size : Int)) = false := decide_eq_false (by omega)
      have hb0 := fun W => run_byt s 0 (by omega) W
      rw [show ((0 : Nat) : Int) = 0 from rfl] at hb0
      have hno := code_no3 (s := s)
      have hyes := code_yes (s := s) (by omega) (by omega)
      generalize byt s 0 = b0 at hb0 hno hyes
      cases hu : upB b0 with
      | false =>
        have HX := hid (hno hu)
        have hu2 := of_decide_eq_false hu
        clear hno hyes hu
        go_enter Try.func83, Try.ntmps83
        go_wp2_with fail
        all_goals first | (exfalso; omega) | (go_ret; exact ⟨by rw [HX.out]; rfl, rfl⟩)
      | true =>
        have HY := hid (hyes hu)
        have hu2 : 65 ≤ b0 ∧ b0 ≤ 90 := of_decide_eq_true hu
        have e3 : decide (b0 < 65) = false := decide_eq_false (by omega)
        have e4 : decide (90 < b0) = false := decide_eq_false (by omega)
        clear hno hyes hu hu2
        have hn8 : s.size ≤ 8 := by omega
        have h1' : 1 ≤ s.size := by omega
        clear h1 h2
        go_enter Try.func83, Try.ntmps83
        go_wp2_with fail
        go_loopw [3] (fun kv wr => ∃ k : Nat, k ≤ s.size ∧ kv = .int .i64 k ∧ Hid (allTo alB s k = true) ∧ w = wr) (fun kv _ => s.size - (intOf kv).toNat)
        case atStart => exact ⟨0, by omega, rfl, hid rfl, rfl⟩
        case round =>
          obtain ⟨k, hk, rfl, hA, rfl⟩ := hrel
          by_cases hkn : k < s.size
          · have hbk := fun W => run_byt s k hkn W
            have hno := code_no4 hkn
            have hst : alB (byt s k) = true → allTo alB s (k + 1) = true := fun h => all_s (f := fun j => alB (byt s j)) hA.out h
            have q1 : (k : Int) < (s.size : Int) := by omega
            generalize byt s k = c at hbk hno hst
            by_cases hu : 65 ≤ c ∧ c ≤ 90
            · have HX : Hid (allTo alB s (k + 1) = true) := hst (by unfold alB upB; rw [decide_eq_true hu]; rfl)
              have f1 : decide (65 ≤ c) = true := decide_eq_true hu.1
              have f2 : decide (c ≤ 90) = true := decide_eq_true hu.2
              clear hst hno hu hA
              go_wp2_with fail
              go_roundw
              case rel => exact ⟨k + 1, by omega, by go_num, HX.out, by first | exact rfl | trivial⟩
              case measure => simp [intOf]; omega
            · by_cases hl : 97 ≤ c ∧ c ≤ 122
              · have HX : Hid (allTo alB s (k + 1) = true) := hst (by unfold alB loB; rw [decide_eq_true hl]; simp)
                have f1 : decide (65 ≤ c) = true := decide_eq_true (by omega)
                have f2 : decide (c ≤ 90) = false := decide_eq_false (by omega)
                have f3 : decide (97 ≤ c) = true := decide_eq_true hl.1
                have f4 : decide (c ≤ 122) = true := decide_eq_true hl.2
                clear hst hno hu hl hA
                go_wp2_with fail
                go_roundw
                case rel => exact ⟨k + 1, by omega, by go_num, HX.out, by first | exact rfl | trivial⟩
                case measure => simp [intOf]; omega
              · by_cases hd : 48 ≤ c ∧ c ≤ 57
                · have HX : Hid (allTo alB s (k + 1) = true) := hst (by unfold alB dgB; rw [decide_eq_true hd]; simp)
                  have f1 : decide (65 ≤ c) = false := decide_eq_false (by omega)
                  have f3 : decide (97 ≤ c) = false := decide_eq_false (by omega)
                  have f5 : decide (48 ≤ c) = true := decide_eq_true hd.1
                  have f6 : decide (c ≤ 57) = true := decide_eq_true hd.2
                  clear hst hno hu hl hd hA
                  go_wp2_with fail
                  go_roundw
                  case rel => exact ⟨k + 1, by omega, by go_num, HX.out, by first | exact rfl | trivial⟩
                  case measure => simp [intOf]; omega
                · have HX := hid (hno (by unfold alB upB loB dgB; rw [decide_eq_false hu, decide_eq_false hl, decide_eq_false hd]; rfl))
                  clear hst hno hA
                  go_wp2_with fail
                  all_goals first | (exfalso; omega) | (exfalso; simp only [Bool.not_eq_eq_eq_not, Bool.not_false, decide_eq_true_eq] at *; omega) | (go_ret; exact ⟨by rw [HX.out]; rfl, rfl⟩)
          · obtain rfl : k = s.size := by omega
            have HX := hid (HY.out hA.out)
            go_wp2_with fail
            go_ret
            exact ⟨by rw [HX.out]; rfl, rfl⟩
end Go.Proofs.Ytddbnggficlcfaa
