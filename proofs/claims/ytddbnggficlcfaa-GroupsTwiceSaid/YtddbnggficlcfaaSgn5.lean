/- ostraconref01.index and ostraconref01.Check. -/
import Derived.Test.YtddbnggficlcfaaSgn4
namespace Go.Proofs.Ytddbnggficlcfaa
open Go.RowKit
/-- The first number at which f holds; -1: there is none. -/
def idxTo (f : Nat → Bool) : Nat → Int
  | 0 => -1
  | n + 1 => if idxTo f n ≠ -1 then idxTo f n else if f n = true then n else -1
theorem idxTo_s {f : Nat → Bool} {k : Nat} (h : idxTo f k = -1) (h2 : f k = false) : idxTo f (k + 1) = -1 := by
  rw [idxTo, if_neg (by simp [h]), if_neg (by simp [h2])]
theorem idxTo_at {f : Nat → Bool} {k : Nat} (h : idxTo f k = -1) (h2 : f k = true) : ∀ n, k < n → idxTo f n = k
  | n + 1, hn => by
    rw [idxTo]
    rcases Nat.eq_or_lt_of_le (Nat.le_of_lt_succ hn) with rfl | h3
    · rw [if_neg (by simp [h]), if_pos h2]
    · rw [idxTo_at h h2 n h3, if_pos (by omega)]
theorem idxTo_lt {f : Nat → Bool} : ∀ n : Nat, idxTo f n < n
  | 0 => by show (-1 : Int) < ((0 : Nat) : Int); omega
  | n + 1 => by
    rw [idxTo]
    have := idxTo_lt (f := f) n
    split
    · omega
    · split <;> omega
theorem idxTo_more {f : Nat → Bool} {k : Nat} (h : idxTo f k ≠ -1) : ∀ n, k ≤ n → idxTo f n = idxTo f k
  | 0, hn => by rw [show k = 0 by omega]
  | n + 1, hn => by
    rcases Nat.eq_or_lt_of_le hn with rfl | h3
    · rfl
    · rw [idxTo, idxTo_more h n (by omega), if_pos h]
theorem idxTo_none {f : Nat → Bool} : ∀ {n : Nat}, idxTo f n = -1 ↔ ∀ j, j < n → f j = false
  | 0 => ⟨fun _ _ h => by omega, fun _ => rfl⟩
  | n + 1 => by
    rw [idxTo]
    have ih := idxTo_none (f := f) (n := n)
    constructor
    · intro h
      split at h
      · rename_i h1
        exact absurd h h1
      · rename_i h1
        have h1 := Decidable.not_not.1 h1
        split at h
        · omega
        · rename_i h2
          intro j hj
          rcases Nat.eq_or_lt_of_le (Nat.le_of_lt_succ hj) with rfl | h3
          · simpa using h2
          · exact ih.1 h1 j h3
    · intro h
      rw [if_neg (by simp; exact ih.2 fun j hj => h j (by omega)), if_neg (by rw [h n (by omega)]; simp)]
def sg (l : List Sg) (i : Nat) : Sg := l.getD i default
theorem sg_at {l : List Sg} {i : Nat} (h : i < l.length) : sg l i = l[i] := by unfold sg; rw [List.getD_eq_getElem?_getD, List.getElem?_eq_getElem h]; rfl
def sameC (l : List Sg) (t : ByteArray) (j : Nat) : Bool := (sg l j).code.toList == t.toList
/-- Has a sign before i the code of i? -/
def seenB (l : List Sg) (i : Nat) : Bool := decide (idxTo (sameC l (sg l i).code) i ≠ -1)
def idxC (l : List Sg) (t : ByteArray) : Int := idxTo (sameC l t) l.length
theorem seen_eq {l : List Sg} {i : Nat} (hi : i < l.length) : decide (idxC l (sg l i).code < i) = seenB l i := by
  unfold seenB idxC
  by_cases h : idxTo (sameC l (sg l i).code) i = -1
  · rw [idxTo_at h (by unfold sameC; simp) _ hi]
    simp [h]
  · rw [idxTo_more h _ (by omega)]
    have := idxTo_lt (f := sameC l (sg l i).code) i
    simp [h, this]
def sgnE (P : Int) (l : List Sg) (i : Nat) : Int := if codeB (sg l i).code = true ∧ seenB l i = false then sgE P (sg l i) else 10
/-- The error of a list. -/
def listE (P : Int) (l : List Sg) : Int := if 200 < l.length then 2 else if ¬ (1 ≤ P ∧ P ≤ 9) then 13 else firstE (sgnE P l) l.length
set_option maxRecDepth 100000 in
set_option maxHeartbeats 2000000 in
theorem index_any (P : Int) (l : List Sg) (t : ByteArray) (hl : l.length ≤ 1000000) (A : Option Addr) (c : Nat) (w : World) (r : Sgs w w.heap.size A l) :
    Calls Try.prog 87 #[.agg #[.int .i64 P, .slice A l.length c], .string t] w fun e w' => e = .returned (.int .i64 (idxC l t)) ∧ Below w.heap.size w w' := by
  obtain ⟨w1, hw1⟩ : ∃ w1, w1 = w.alloc (.cells #[.int .i64 P, .slice A l.length c] 24) := ⟨_, rfl⟩
  have hb1 : Below w.heap.size w w1 := by rw [hw1]; exact (Below.refl _ _).alloc (Nat.le_refl _) _
  have cc : w1.cell? ⟨w.heap.size, 1, none⟩ = some (.slice A l.length c) := by rw [hw1]; simp
  have r1 : Sgs w1 w.heap.size A l := r.below hb1
  obtain ⟨n, hn⟩ : ∃ n, n = l.length := ⟨_, rfl⟩
  obtain ⟨E, hE⟩ : ∃ E, E = idxC l t := ⟨_, rfl⟩
  rw [← hE]
  unfold idxC at hE
  rw [← hn] at hl cc hE hw1 ⊢
  have HW1 := hid hw1; have HB1 := hid hb1; have HR := hid r1; have HN := hid hn; have HE := hid hE
  clear hw1 hb1 r r1 hn hE
  go_enter Try.func87, Try.ntmps87
  go_wp2_with fail
  rw [← HW1.out]
  obtain ⟨B0, hB0⟩ : ∃ B0, B0 = w.heap.size := ⟨_, rfl⟩
  have HB1 := HB1
  rw [← hB0] at cc HR HB1 ⊢
  have HBE : Hid (Below w.heap.size w w1) := by rw [← hB0]; exact HB1
  clear hB0 HW1
  go_loopw [5] (fun kv wr => ∃ k : Nat, k ≤ n ∧ kv = .int .i64 k ∧ Hid (idxTo (sameC l t) k = -1) ∧ ∃ q, wr = w1.drewN q) (fun kv _ => n - (intOf kv).toNat)
  case atStart => exact ⟨0, by omega, rfl, hid rfl, 0, rfl⟩
  case round =>
    obtain ⟨k, hk, rfl, hF, q, rfl⟩ := hrel
    by_cases hkn : k < n
    · have hkl : k < l.length := by rw [← HN.out]; exact hkn
      obtain ⟨b1, o1, hA1, hb1, hcA⟩ := HR.out.at (by omega)
      subst hA1
      have c1 := (hcA k hkl).code
      have hq : (k : Int) < (n : Int) := by omega
      obtain ⟨m, hm⟩ : ∃ m, m = sameC l t k := ⟨_, rfl⟩
      have hyes : m = true → E = k := fun h => by rw [HE.out]; exact idxTo_at hF.out (by rw [← hm, h]) _ hkn
      have hno : m = false → idxTo (sameC l t) (k + 1) = -1 := fun h => idxTo_s hF.out (by rw [← hm, h])
      have HYES := hid hyes; have HNO := hid hno
      unfold sameC at hm
      rw [sg_at hkl] at hm
      generalize l[k].code = u at c1 hm
      clear hyes hno hcA hF HE
      cases m with
      | true =>
        have HY := hid (HYES.out rfl)
        have e1 : (u.toList == t.toList) = true := hm.symm
        clear HYES HNO hm
        go_wp2_with fail
        go_ret
        exact ⟨congrArg (fun x => Ending.returned (.int .i64 x)) HY.out.symm, below_drewN HBE.out _⟩
      | false =>
        have HY := hid (HNO.out rfl)
        have e1 : (u.toList == t.toList) = false := hm.symm
        clear HYES HNO hm
        go_wp2_with fail
        go_roundw
        case rel => exact ⟨k + 1, by omega, by go_num, HY.out, _, rfl⟩
        case measure => simp [intOf]; omega
    · obtain rfl : n = k := by omega
      have HX := hid (HE.out.trans hF.out)
      clear hF HE
      go_wp2_with fail
      go_ret
      exact ⟨congrArg (fun x => Ending.returned (.int .i64 x)) HX.out.symm, below_drewN HBE.out _⟩
end Go.Proofs.Ytddbnggficlcfaa
