/- STRINGS: bytes, classes of bytes; signs.validCode and ostraconref01.Code. -/
import Derived.Test.YtaoddenadfmdbaaUtil
namespace Go.Proofs.Ytaoddenadfmdbaa
open Go.RowKit
/-- Byte k of a string. -/
def byt (s : ByteArray) (k : Nat) : Int := if h : k < s.size then ((s[k]'h).toNat : Int) else 0
theorem run_byt (s : ByteArray) (k : Nat) (hk : k < s.size) (W : World) : (Instr.index 9 (.string s) (.int .i64 (k : Int))).run Try.prog W = .ok (.int .u8 (byt s k)) W := by
  rw [run_index_string W 9 s .i64 (k : Int) Try.underlying9, dif_pos ⟨by omega, by omega⟩]
  unfold byt
  rw [dif_pos hk]
  rfl
def upB (c : Int) : Bool := decide (65 ≤ c ∧ c ≤ 90)
def loB (c : Int) : Bool := decide (97 ≤ c ∧ c ≤ 122)
def dgB (c : Int) : Bool := decide (48 ≤ c ∧ c ≤ 57)
def alB (c : Int) : Bool := upB c || loB c || dgB c
theorem all_bad {f : Nat → Bool} {i n : Nat} (hi : i < n) (h : f i = false) : (List.range n).all f = false := by
  rw [Bool.eq_false_iff]
  intro hx
  rw [List.all_eq_true] at hx
  have := hx i (List.mem_range.2 hi)
  rw [h] at this
  cases this
theorem all_s {f : Nat → Bool} {i : Nat} (h : (List.range i).all f = true) (h2 : f i = true) : (List.range (i + 1)).all f = true := by
  rw [List.range_succ, List.all_append, h]
  simp [h2]
/-- A valid code. -/
def allTo (p : Int → Bool) (s : ByteArray) (k : Nat) : Bool := (List.range k).all fun j => p (byt s j)
def codeB (s : ByteArray) : Bool := decide (1 ≤ s.size) && decide (s.size ≤ 8) && upB (byt s 0) && allTo alB s s.size
theorem code_no1 {s : ByteArray} (h : s.size < 1) : codeB s = false := by unfold codeB; rw [decide_eq_false (by omega)]; rfl
theorem code_no2 {s : ByteArray} (h : 8 < s.size) : codeB s = false := by unfold codeB; rw [decide_eq_false (show ¬ s.size ≤ 8 by omega)]; simp
theorem code_no3 {s : ByteArray} (h : upB (byt s 0) = false) : codeB s = false := by unfold codeB; rw [h]; simp
theorem code_no4 {s : ByteArray} {k : Nat} (hk : k < s.size) (h : alB (byt s k) = false) : codeB s = false := by
  unfold codeB allTo
  rw [all_bad hk h]
  simp
theorem code_yes {s : ByteArray} (h1 : 1 ≤ s.size) (h2 : s.size ≤ 8) (h3 : upB (byt s 0) = true) (h4 : allTo alB s s.size = true) : codeB s = true := by
  unfold codeB
  rw [h3, h4, decide_eq_true h1, decide_eq_true h2]
  rfl
set_option maxRecDepth 100000 in
set_option maxHeartbeats 2000000 in
theorem validCode_any (s : ByteArray) (w : World) :
    Calls Try.prog 64 #[.string s] w fun e w' => e = .returned (.bool (codeB s)) ∧ w = w' := by
  by_cases h1 : s.size < 1
  · have e1 : decide ((s.size : Int) < 1) = true := decide_eq_true (by omega)
    have HX := hid (code_no1 h1)
    go_enter Try.func64, Try.ntmps64
    go_wp2_with fail
    go_ret
    exact ⟨by rw [HX.out]; rfl, rfl⟩
  · have e1 : decide ((s.size : Int) < 1) = false := decide_eq_false (by omega)
    by_cases h2 : 8 < s.size
    · have e2 : decide ((8 : Int) < (s.size : Int)) = true := decide_eq_true (by omega)
      have HX := hid (code_no2 h2)
      go_enter Try.func64, Try.ntmps64
      go_wp2_with fail
      go_ret
      exact ⟨by rw [HX.out]; rfl, rfl⟩
    · have e2 : decide ((8 : Int) < (s.size : Int)) = false := decide_eq_false (by omega)
      have hb0 := fun W => run_byt s 0 (by omega) W
      rw [show ((0 : Nat) : Int) = 0 from rfl] at hb0
      have hno := code_no3 (s := s)
      have hyes := code_yes (s := s) (by omega) (by omega)
      generalize byt s 0 = b0 at hb0 hno hyes
      cases hu : upB b0 with
      | false =>
        have HX := hid (hno hu)
        have hu2 := of_decide_eq_false hu
        clear hno hyes hu
        go_enter Try.func64, Try.ntmps64
        go_wp2_with fail
        all_goals first | (exfalso; omega) | (go_ret; exact ⟨by rw [HX.out]; rfl, rfl⟩)
      | true =>
        have HY := hid (hyes hu)
        have hu2 : 65 ≤ b0 ∧ b0 ≤ 90 := of_decide_eq_true hu
        have e3 : decide (b0 < 65) = false := decide_eq_false (by omega)
        have e4 : decide (90 < b0) = false := decide_eq_false (by omega)
        clear hno hyes hu hu2
        have hn8 : s.size ≤ 8 := by omega
        have h1' : 1 ≤ s.size := by omega
        clear h1 h2
        go_enter Try.func64, Try.ntmps64
        go_wp2_with fail
        go_loopw [3] (fun kv wr => ∃ k : Nat, k ≤ s.size ∧ kv = .int .i64 k ∧ Hid (allTo alB s k = true) ∧ w = wr) (fun kv _ => s.size - (intOf kv).toNat)
        case atStart => exact ⟨0, by omega, rfl, hid rfl, rfl⟩
        case round =>
          obtain ⟨k, hk, rfl, hA, rfl⟩ := hrel
          by_cases hkn : k < s.size
          · have hbk := fun W => run_byt s k hkn W
            have hno := code_no4 hkn
            have hst : alB (byt s k) = true → allTo alB s (k + 1) = true := fun h => all_s (f := fun j => alB (byt s j)) hA.out h
            have q1 : (k : Int) < (s.size : Int) := by omega
            generalize byt s k = c at hbk hno hst
            by_cases hu : 65 ≤ c ∧ c ≤ 90
            · have HX : Hid (allTo alB s (k + 1) = true) := hst (by unfold alB upB; rw [decide_eq_true hu]; rfl)
              have f1 : decide (65 ≤ c) = true := decide_eq_true hu.1
              have f2 : decide (c ≤ 90) = true := decide_eq_true hu.2
              clear hst hno hu hA
              go_wp2_with fail
              go_roundw
              case rel => exact ⟨k + 1, by omega, by go_num, HX.out, by first | exact rfl | trivial⟩
              case measure => simp [intOf]; omega
            · by_cases hl : 97 ≤ c ∧ c ≤ 122
              · have HX : Hid (allTo alB s (k + 1) = true) := hst (by unfold alB loB; rw [decide_eq_true hl]; simp)
                have f1 : decide (65 ≤ c) = true := decide_eq_true (by omega)
                have f2 : decide (c ≤ 90) = false := decide_eq_false (by omega)
                have f3 : decide (97 ≤ c) = true := decide_eq_true hl.1
                have f4 : decide (c ≤ 122) = true := decide_eq_true hl.2
                clear hst hno hu hl hA
                go_wp2_with fail
                go_roundw
                case rel => exact ⟨k + 1, by omega, by go_num, HX.out, by first | exact rfl | trivial⟩
                case measure => simp [intOf]; omega
              · by_cases hd : 48 ≤ c ∧ c ≤ 57
                · have HX : Hid (allTo alB s (k + 1) = true) := hst (by unfold alB dgB; rw [decide_eq_true hd]; simp)
                  have f1 : decide (65 ≤ c) = false := decide_eq_false (by omega)
                  have f3 : decide (97 ≤ c) = false := decide_eq_false (by omega)
                  have f5 : decide (48 ≤ c) = true := decide_eq_true hd.1
                  have f6 : decide (c ≤ 57) = true := decide_eq_true hd.2
                  clear hst hno hu hl hd hA
                  go_wp2_with fail
                  go_roundw
                  case rel => exact ⟨k + 1, by omega, by go_num, HX.out, by first | exact rfl | trivial⟩
                  case measure => simp [intOf]; omega
                · have HX := hid (hno (by unfold alB upB loB dgB; rw [decide_eq_false hu, decide_eq_false hl, decide_eq_false hd]; rfl))
                  clear hst hno hA
                  go_wp2_with fail
                  all_goals first | (exfalso; omega) | (exfalso; simp only [Bool.not_eq_eq_eq_not, Bool.not_false, decide_eq_true_eq] at *; omega) | (go_ret; exact ⟨by rw [HX.out]; rfl, rfl⟩)
          · obtain rfl : k = s.size := by omega
            have HX := hid (HY.out hA.out)
            go_wp2_with fail
            go_ret
            exact ⟨by rw [HX.out]; rfl, rfl⟩
end Go.Proofs.Ytaoddenadfmdbaa

/- STRINGS: signs.validText; the reference's Code, Right. -/
namespace Go.Proofs.Ytaoddenadfmdbaa
open Go.RowKit
def txtC (kind : Int) (c : Int) : Bool := loB c || (decide (kind ≠ 3) && upB c)
/-- A valid text of a kind of value. -/
def textB (kind : Int) (s : ByteArray) : Bool := decide (1 ≤ s.size) && decide (s.size ≤ 8) && allTo (txtC kind) s s.size
theorem text_no1 {kind : Int} {s : ByteArray} (h : s.size < 1) : textB kind s = false := by unfold textB; rw [decide_eq_false (by omega)]; rfl
theorem text_no2 {kind : Int} {s : ByteArray} (h : 8 < s.size) : textB kind s = false := by unfold textB; rw [decide_eq_false (show ¬ s.size ≤ 8 by omega)]; simp
theorem text_no4 {kind : Int} {s : ByteArray} {k : Nat} (hk : k < s.size) (h : txtC kind (byt s k) = false) : textB kind s = false := by
  unfold textB allTo
  rw [all_bad hk h]
  simp
theorem text_yes {kind : Int} {s : ByteArray} (h1 : 1 ≤ s.size) (h2 : s.size ≤ 8) (h4 : allTo (txtC kind) s s.size = true) : textB kind s = true := by
  unfold textB
  rw [h4, decide_eq_true h1, decide_eq_true h2]
  rfl
set_option maxRecDepth 100000 in
set_option maxHeartbeats 2000000 in
theorem validText_any (kind : Int) (s : ByteArray) (w : World) :
    Calls Try.prog 74 #[.int .i64 kind, .string s] w fun e w' => e = .returned (.bool (textB kind s)) ∧ w = w' := by
  by_cases h1 : s.size < 1
  · have e1 : decide ((s.size : Int) < 1) = true := decide_eq_true (by omega)
    have HX := hid (text_no1 (kind := kind) h1)
    go_enter Try.func74, Try.ntmps74
    go_wp2_with fail
    go_ret
    exact ⟨by rw [HX.out]; rfl, rfl⟩
  · have e1 : decide ((s.size : Int) < 1) = false := decide_eq_false (by omega)
    by_cases h2 : 8 < s.size
    · have e2 : decide ((8 : Int) < (s.size : Int)) = true := decide_eq_true (by omega)
      have HX := hid (text_no2 (kind := kind) h2)
      go_enter Try.func74, Try.ntmps74
      go_wp2_with fail
      go_ret
      exact ⟨by rw [HX.out]; rfl, rfl⟩
    · have e2 : decide ((8 : Int) < (s.size : Int)) = false := decide_eq_false (by omega)
      have HY := hid (text_yes (kind := kind) (s := s) (by omega) (by omega))
      have hn8 : s.size ≤ 8 := by omega
      have h1' : 1 ≤ s.size := by omega
      clear h1 h2
      obtain ⟨kb, hkb⟩ : ∃ kb, kb = decide (kind ≠ 3) := ⟨_, rfl⟩
      have f0 : (kind != 3) = kb := by rw [hkb, Bool.eq_iff_iff]; simp
      have HK := hid hkb
      clear hkb
      go_enter Try.func74, Try.ntmps74
      go_wp2_with fail
      go_loopw [5] (fun kv wr => ∃ k : Nat, k ≤ s.size ∧ kv = .int .i64 k ∧ Hid (allTo (txtC kind) s k = true) ∧ w = wr) (fun kv _ => s.size - (intOf kv).toNat)
      case atStart => exact ⟨0, by omega, rfl, hid rfl, rfl⟩
      case round =>
        obtain ⟨k, hk, rfl, hA, rfl⟩ := hrel
        by_cases hkn : k < s.size
        · have hbk := fun W => run_byt s k hkn W
          have hno := text_no4 (kind := kind) hkn
          have hst : txtC kind (byt s k) = true → allTo (txtC kind) s (k + 1) = true := fun h => all_s (f := fun j => txtC kind (byt s j)) hA.out h
          have q1 : (k : Int) < (s.size : Int) := by omega
          generalize byt s k = c at hbk hno hst
          have htx : txtC kind c = (loB c || (kb && upB c)) := by unfold txtC; rw [HK.out]
          rw [htx] at hst hno
          clear htx
          by_cases hl : 97 ≤ c ∧ c ≤ 122
          · have HX := hid (hst (by unfold loB; rw [decide_eq_true hl]; rfl))
            have f3 : decide (97 ≤ c) = true := decide_eq_true hl.1
            have f4 : decide (c ≤ 122) = true := decide_eq_true hl.2
            clear hst hno hl hA
            go_wp2_with fail
            go_roundw
            case rel => exact ⟨k + 1, by omega, by go_num, HX.out, by first | exact rfl | trivial⟩
            case measure => simp [intOf]; omega
          · cases kb with
            | false =>
              have HX := hid (hno (by unfold loB; rw [decide_eq_false hl]; rfl))
              clear hst hno hA
              go_wp2_with fail
              all_goals first | (exfalso; omega) | (exfalso; simp only [Bool.not_eq_eq_eq_not, Bool.not_false, decide_eq_true_eq] at *; omega) | (go_ret; exact ⟨by rw [HX.out]; rfl, rfl⟩)
            | true =>
              by_cases hu : 65 ≤ c ∧ c ≤ 90
              · have HX := hid (hst (by unfold upB; rw [decide_eq_true hu]; simp))
                have f1 : decide (65 ≤ c) = true := decide_eq_true hu.1
                have f2 : decide (c ≤ 90) = true := decide_eq_true hu.2
                have f3 : decide (97 ≤ c) = false := decide_eq_false (by omega)
                clear hst hno hu hl hA
                go_wp2_with fail
                go_roundw
                case rel => exact ⟨k + 1, by omega, by go_num, HX.out, by first | exact rfl | trivial⟩
                case measure => simp [intOf]; omega
              · have HX := hid (hno (by unfold loB upB; rw [decide_eq_false hl, decide_eq_false hu]; rfl))
                clear hst hno hA
                go_wp2_with fail
                all_goals first | (exfalso; omega) | (exfalso; simp only [Bool.not_eq_eq_eq_not, Bool.not_false, decide_eq_true_eq] at *; omega) | (go_ret; exact ⟨by rw [HX.out]; rfl, rfl⟩)
        · obtain rfl : k = s.size := by omega
          have HX := hid (HY.out hA.out)
          go_wp2_with fail
          go_ret
          exact ⟨by rw [HX.out]; rfl, rfl⟩
set_option maxRecDepth 100000 in
theorem between_any (c lo hi : Int) (w : World) :
    Calls Try.prog 31 #[.int .u8 c, .int .u8 lo, .int .u8 hi] w fun e w' => e = .returned (.bool (decide (lo ≤ c ∧ c ≤ hi))) ∧ w = w' := by
  by_cases h1 : lo ≤ c
  · by_cases h2 : c ≤ hi
    · have f1 : decide (lo ≤ c) = true := decide_eq_true h1
      have f2 : decide (c ≤ hi) = true := decide_eq_true h2
      have HX := hid (decide_eq_true (And.intro h1 h2))
      clear h1 h2
      go_enter Try.func31, Try.ntmps31
      go_wp2_with fail
      go_ret
      exact ⟨by rw [HX.out]; rfl, rfl⟩
    · have f1 : decide (lo ≤ c) = true := decide_eq_true h1
      have f2 : decide (c ≤ hi) = false := decide_eq_false h2
      have HX := hid (decide_eq_false (show ¬ (lo ≤ c ∧ c ≤ hi) from fun h => h2 h.2))
      clear h1 h2
      go_enter Try.func31, Try.ntmps31
      go_wp2_with fail
      go_ret
      exact ⟨by rw [HX.out]; rfl, rfl⟩
  · have f1 : decide (lo ≤ c) = false := decide_eq_false h1
    have HX := hid (decide_eq_false (show ¬ (lo ≤ c ∧ c ≤ hi) from fun h => h1 h.1))
    clear h1
    go_enter Try.func31, Try.ntmps31
    go_wp2_with fail
    go_ret
    exact ⟨by rw [HX.out]; rfl, rfl⟩
set_option maxRecDepth 100000 in
set_option maxHeartbeats 2000000 in
theorem refCode_any (s : ByteArray) (w : World) :
    Calls Try.prog 20 #[.string s] w fun e w' => e = .returned (.bool (codeB s)) ∧ w = w' := by
  by_cases h1 : s.size < 1
  · have e1 : decide ((s.size : Int) < 1) = true := decide_eq_true (by omega)
    have HX := hid (code_no1 h1)
    go_enter Try.func20, Try.ntmps20
    go_wp2_with fail
    go_ret
    exact ⟨by rw [HX.out]; rfl, rfl⟩
  · have e1 : decide ((s.size : Int) < 1) = false := decide_eq_false (by omega)
    by_cases h2 : 8 < s.size
    · have e2 : decide ((8 : Int) < (s.size : Int)) = true := decide_eq_true (by omega)
      have HX := hid (code_no2 h2)
      go_enter Try.func20, Try.ntmps20
      go_wp2_with fail
      go_ret
      exact ⟨by rw [HX.out]; rfl, rfl⟩
    · have e2 : decide ((8 : Int) < (s.size : Int)) = false := decide_eq_false (by omega)
      have hb0 := fun W => run_byt s 0 (by omega) W
      rw [show ((0 : Nat) : Int) = 0 from rfl] at hb0
      have hno := code_no3 (s := s)
      have hyes := code_yes (s := s) (by omega) (by omega)
      generalize byt s 0 = b0 at hb0 hno hyes
      have hbt := fun w3 => between_any b0 65 90 w3
      rw [show decide (65 ≤ b0 ∧ b0 ≤ 90) = upB b0 from rfl] at hbt
      cases hu : upB b0 with
      | false =>
        have HX := hid (hno hu)
        rw [hu] at hbt
        have HB := hid hbt
        clear hno hyes hu hbt
        go_enter Try.func20, Try.ntmps20
        go_wp2_with (first | (go_at_call 31; refine (HB.out _).mono ?_; rintro e w3 ⟨rfl, rfl⟩))
        go_ret
        exact ⟨by rw [HX.out]; rfl, rfl⟩
      | true =>
        have HY := hid (hyes hu)
        rw [hu] at hbt
        have HB := hid hbt
        have hn8 : s.size ≤ 8 := by omega
        have h1' : 1 ≤ s.size := by omega
        clear hno hyes hu h1 h2 hbt
        go_enter Try.func20, Try.ntmps20
        go_wp2_with (first | (go_at_call 31; refine (HB.out _).mono ?_; rintro e w3 ⟨rfl, rfl⟩))
        go_loopw [3] (fun kv wr => ∃ k : Nat, k ≤ s.size ∧ kv = .int .i64 k ∧ Hid (allTo alB s k = true) ∧ w = wr) (fun kv _ => s.size - (intOf kv).toNat)
        case atStart => exact ⟨0, by omega, rfl, hid rfl, rfl⟩
        case round =>
          obtain ⟨k, hk, rfl, hA, rfl⟩ := hrel
          by_cases hkn : k < s.size
          · have hbk := fun W => run_byt s k hkn W
            have hno := code_no4 hkn
            have hst : alB (byt s k) = true → allTo alB s (k + 1) = true := fun h => all_s (f := fun j => alB (byt s j)) hA.out h
            have q1 : (k : Int) < (s.size : Int) := by omega
            generalize byt s k = c at hbk hno hst
            have b1 := fun w3 => between_any c 97 122 w3
            have b2 := fun w3 => between_any c 65 90 w3
            have b3 := fun w3 => between_any c 48 57 w3
            rw [show decide (97 ≤ c ∧ c ≤ 122) = loB c from rfl] at b1
            rw [show decide (65 ≤ c ∧ c ≤ 90) = upB c from rfl] at b2
            rw [show decide (48 ≤ c ∧ c ≤ 57) = dgB c from rfl] at b3
            unfold alB at hst hno
            generalize loB c = x1 at b1 hst hno
            generalize upB c = x2 at b2 hst hno
            generalize dgB c = x3 at b3 hst hno
            have B1 := hid b1; have B2 := hid b2; have B3 := hid b3; have HN := hid hno; have HS := hid hst
            clear b1 b2 b3 hno hst hA
            cases x1 with
            | true =>
              have HX := hid (HS.out (by simp))
              go_wp2_with (first | (go_at_call 31; refine (B1.out _).mono ?_; rintro e w3 ⟨rfl, rfl⟩))
              go_roundw
              case rel => exact ⟨k + 1, by omega, by go_num, HX.out, by first | exact rfl | trivial⟩
              case measure => simp [intOf]; omega
            | false =>
              cases x2 with
              | true =>
                have HX := hid (HS.out (by simp))
                go_wp2_with (first | (go_at_call 31; (first | with_reducible refine (B1.out _).mono ?_ | with_reducible refine (B2.out _).mono ?_); rintro e w3 ⟨rfl, rfl⟩))
                go_roundw
                case rel => exact ⟨k + 1, by omega, by go_num, HX.out, by first | exact rfl | trivial⟩
                case measure => simp [intOf]; omega
              | false =>
                cases x3 with
                | true =>
                  have HX := hid (HS.out (by simp))
                  go_wp2_with (first | (go_at_call 31; (first | with_reducible refine (B1.out _).mono ?_ | with_reducible refine (B2.out _).mono ?_ | with_reducible refine (B3.out _).mono ?_); rintro e w3 ⟨rfl, rfl⟩))
                  go_roundw
                  case rel => exact ⟨k + 1, by omega, by go_num, HX.out, by first | exact rfl | trivial⟩
                  case measure => simp [intOf]; omega
                | false =>
                  have HX := hid (HN.out rfl)
                  go_wp2_with (first | (go_at_call 31; (first | with_reducible refine (B1.out _).mono ?_ | with_reducible refine (B2.out _).mono ?_ | with_reducible refine (B3.out _).mono ?_); rintro e w3 ⟨rfl, rfl⟩))
                  go_ret
                  exact ⟨by rw [HX.out]; rfl, rfl⟩
          · obtain rfl : k = s.size := by omega
            have HX := hid (HY.out hA.out)
            go_wp2_with fail
            go_ret
            exact ⟨by rw [HX.out]; rfl, rfl⟩
theorem allTo_no {p : Int → Bool} {s : ByteArray} {k : Nat} (hk : k < s.size) (h : p (byt s k) = false) : allTo p s s.size = false := by
  unfold allTo
  exact all_bad (f := fun j => p (byt s j)) hk h
set_option maxRecDepth 100000 in
set_option maxHeartbeats 2000000 in
theorem small_any (s : ByteArray) (h8 : s.size ≤ 8) (w : World) :
    Calls Try.prog 47 #[.string s] w fun e w' => e = .returned (.bool (allTo loB s s.size)) ∧ w = w' := by
  obtain ⟨r, hr⟩ : ∃ r, r = allTo loB s s.size := ⟨_, rfl⟩
  rw [← hr]
  have HR := hid hr
  clear hr
  go_enter Try.func47, Try.ntmps47
  go_wp2_with fail
  go_loopw [3] (fun kv wr => ∃ k : Nat, k ≤ s.size ∧ kv = .int .i64 k ∧ Hid (allTo loB s k = true) ∧ w = wr) (fun kv _ => s.size - (intOf kv).toNat)
  case atStart => exact ⟨0, by omega, rfl, hid rfl, rfl⟩
  case round =>
    obtain ⟨k, hk, rfl, hA, rfl⟩ := hrel
    by_cases hkn : k < s.size
    · have hbk := fun W => run_byt s k hkn W
      have hno := allTo_no (p := loB) hkn
      have hst : loB (byt s k) = true → allTo loB s (k + 1) = true := fun h => all_s (f := fun j => loB (byt s j)) hA.out h
      have q1 : (k : Int) < (s.size : Int) := by omega
      generalize byt s k = c at hbk hno hst
      have b1 := fun w3 => between_any c 97 122 w3
      rw [show decide (97 ≤ c ∧ c ≤ 122) = loB c from rfl] at b1
      generalize loB c = x1 at b1 hst hno
      have B1 := hid b1; have HN := hid hno; have HS := hid hst
      clear b1 hno hst hA
      cases x1 with
      | true =>
        have HX := hid (HS.out rfl)
        go_wp2_with (first | (go_at_call 31; refine (B1.out _).mono ?_; rintro e w3 ⟨rfl, rfl⟩))
        go_roundw
        case rel => exact ⟨k + 1, by omega, by go_num, HX.out, by first | exact rfl | trivial⟩
        case measure => simp [intOf]; omega
      | false =>
        have HX := hid (HN.out rfl)
        go_wp2_with (first | (go_at_call 31; refine (B1.out _).mono ?_; rintro e w3 ⟨rfl, rfl⟩))
        go_ret
        exact ⟨by rw [HR.out, HX.out]; rfl, rfl⟩
    · obtain rfl : k = s.size := by omega
      have HX := hid hA.out
      clear hA
      go_wp2_with fail
      go_ret
      exact ⟨by rw [HR.out, HX.out]; rfl, rfl⟩
def sdB (c : Int) : Bool := loB c || upB c
set_option maxRecDepth 100000 in
set_option maxHeartbeats 2000000 in
theorem sounds_any (s : ByteArray) (h8 : s.size ≤ 8) (w : World) :
    Calls Try.prog 48 #[.string s] w fun e w' => e = .returned (.bool (allTo sdB s s.size)) ∧ w = w' := by
  obtain ⟨r, hr⟩ : ∃ r, r = allTo sdB s s.size := ⟨_, rfl⟩
  rw [← hr]
  have HR := hid hr
  clear hr
  go_enter Try.func48, Try.ntmps48
  go_wp2_with fail
  go_loopw [3] (fun kv wr => ∃ k : Nat, k ≤ s.size ∧ kv = .int .i64 k ∧ Hid (allTo sdB s k = true) ∧ w = wr) (fun kv _ => s.size - (intOf kv).toNat)
  case atStart => exact ⟨0, by omega, rfl, hid rfl, rfl⟩
  case round =>
    obtain ⟨k, hk, rfl, hA, rfl⟩ := hrel
    by_cases hkn : k < s.size
    · have hbk := fun W => run_byt s k hkn W
      have hno := allTo_no (p := sdB) hkn
      have hst : sdB (byt s k) = true → allTo sdB s (k + 1) = true := fun h => all_s (f := fun j => sdB (byt s j)) hA.out h
      have q1 : (k : Int) < (s.size : Int) := by omega
      generalize byt s k = c at hbk hno hst
      have b1 := fun w3 => between_any c 97 122 w3
      have b2 := fun w3 => between_any c 65 90 w3
      rw [show decide (97 ≤ c ∧ c ≤ 122) = loB c from rfl] at b1
      rw [show decide (65 ≤ c ∧ c ≤ 90) = upB c from rfl] at b2
      unfold sdB at hst hno
      generalize loB c = x1 at b1 hst hno
      generalize upB c = x2 at b2 hst hno
      have B1 := hid b1; have B2 := hid b2; have HN := hid hno; have HS := hid hst
      clear b1 b2 hno hst hA
      cases x1 with
      | true =>
        have HX := hid (HS.out rfl)
        go_wp2_with (first | (go_at_call 31; (first | with_reducible refine (B1.out _).mono ?_ | with_reducible refine (B2.out _).mono ?_); rintro e w3 ⟨rfl, rfl⟩))
        go_roundw
        case rel => exact ⟨k + 1, by omega, by go_num, HX.out, by first | exact rfl | trivial⟩
        case measure => simp [intOf]; omega
      | false =>
        cases x2 with
        | true =>
          have HX := hid (HS.out rfl)
          go_wp2_with (first | (go_at_call 31; (first | with_reducible refine (B1.out _).mono ?_ | with_reducible refine (B2.out _).mono ?_); rintro e w3 ⟨rfl, rfl⟩))
          go_roundw
          case rel => exact ⟨k + 1, by omega, by go_num, HX.out, by first | exact rfl | trivial⟩
          case measure => simp [intOf]; omega
        | false =>
          have HX := hid (HN.out rfl)
          go_wp2_with (first | (go_at_call 31; (first | with_reducible refine (B1.out _).mono ?_ | with_reducible refine (B2.out _).mono ?_); rintro e w3 ⟨rfl, rfl⟩))
          go_ret
          exact ⟨by rw [HR.out]; unfold sdB; rw [HX.out]; rfl, rfl⟩
    · obtain rfl : k = s.size := by omega
      have HX := hid hA.out
      clear hA
      go_wp2_with fail
      go_ret
      exact ⟨by rw [HR.out, HX.out]; rfl, rfl⟩
theorem text_alt (kind : Int) (s : ByteArray) (h1 : 1 ≤ s.size) (h2 : s.size ≤ 8) : textB kind s = if kind = 3 then allTo loB s s.size else allTo sdB s s.size := by
  unfold textB
  rw [decide_eq_true h1, decide_eq_true h2]
  simp only [Bool.true_and]
  by_cases h : kind = 3
  · rw [if_pos h]
    subst h
    have : txtC 3 = loB := by funext c; unfold txtC; simp
    rw [this]
  · rw [if_neg h]
    have : txtC kind = sdB := by funext c; unfold txtC sdB; simp [h]
    rw [this]
set_option maxRecDepth 100000 in
theorem right_any (kind : Int) (s : ByteArray) (w : World) :
    Calls Try.prog 32 #[.int .i64 kind, .string s] w fun e w' => e = .returned (.bool (textB kind s)) ∧ w = w' := by
  by_cases h1 : s.size < 1
  · have e1 : decide ((s.size : Int) < 1) = true := decide_eq_true (by omega)
    have HX := hid (text_no1 (kind := kind) h1)
    go_enter Try.func32, Try.ntmps32
    go_wp2_with fail
    go_ret
    exact ⟨by rw [HX.out]; rfl, rfl⟩
  · have e1 : decide ((s.size : Int) < 1) = false := decide_eq_false (by omega)
    by_cases h2 : 8 < s.size
    · have e2 : decide ((8 : Int) < (s.size : Int)) = true := decide_eq_true (by omega)
      have HX := hid (text_no2 (kind := kind) h2)
      go_enter Try.func32, Try.ntmps32
      go_wp2_with fail
      go_ret
      exact ⟨by rw [HX.out]; rfl, rfl⟩
    · have e2 : decide ((8 : Int) < (s.size : Int)) = false := decide_eq_false (by omega)
      have hx := text_alt kind s (by omega) (by omega)
      by_cases h3 : kind = 3
      · rw [if_pos h3] at hx
        have HX := hid hx
        have e3 : (kind == 3) = true := by simpa using h3
        clear hx h1 h3
        go_enter Try.func32, Try.ntmps32
        go_wp2_with (first | (go_at_call 47; refine (small_any _ (by omega) _).mono ?_; rintro e w3 ⟨rfl, rfl⟩))
        go_ret
        exact ⟨by rw [HX.out]; rfl, rfl⟩
      · rw [if_neg h3] at hx
        have HX := hid hx
        have e3 : (kind == 3) = false := by simpa using h3
        clear hx h1
        go_enter Try.func32, Try.ntmps32
        go_wp2_with (first | (go_at_call 48; refine (sounds_any _ (by omega) _).mono ?_; rintro e w3 ⟨rfl, rfl⟩))
        go_ret
        exact ⟨by rw [HX.out]; rfl, rfl⟩
end Go.Proofs.Ytaoddenadfmdbaa
