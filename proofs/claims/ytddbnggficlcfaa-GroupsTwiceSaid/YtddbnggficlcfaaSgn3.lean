/- signs.checkValue and ostraconref01.sign. -/
import Derived.Test.YtddbnggficlcfaaSgn2
namespace Go.Proofs.Ytddbnggficlcfaa
open Go.RowKit
/-- The first error of some. -/
def firstE (f : Nat → Int) : Nat → Int
  | 0 => 0
  | n + 1 => if firstE f n ≠ 0 then firstE f n else f n
theorem firstE_s {f : Nat → Int} {k : Nat} (h : firstE f k = 0) (h2 : f k = 0) : firstE f (k + 1) = 0 := by rw [firstE, if_neg (by simp [h]), h2]
theorem firstE_at {f : Nat → Int} {k : Nat} (h : firstE f k = 0) (h2 : f k ≠ 0) : ∀ n, k < n → firstE f n = f k
  | n + 1, hn => by
    rw [firstE]
    rcases Nat.eq_or_lt_of_le (Nat.le_of_lt_succ hn) with rfl | h3
    · rw [if_neg (by simp [h])]
    · rw [firstE_at h h2 n h3, if_pos h2]
theorem firstE_get {f : Nat → Int} : ∀ {n : Nat}, firstE f n = 0 → ∀ k, k < n → f k = 0
  | n + 1, h, k, hk => by
    rw [firstE] at h
    split at h
    · rename_i h1
      exact absurd h h1
    · rename_i h1
      have h1 := Decidable.not_not.1 h1
      rcases Nat.eq_or_lt_of_le (Nat.le_of_lt_succ hk) with rfl | h3
      · exact h
      · exact firstE_get h1 k h3
theorem firstE_congr {f g : Nat → Int} : ∀ {n : Nat}, (∀ k, k < n → f k = g k) → firstE f n = firstE g n
  | 0, _ => rfl
  | n + 1, h => by rw [firstE, firstE, firstE_congr fun k hk => h k (by omega), h n (by omega)]
/-- The error of a value behind others. -/
def valE (P : Int) (before : List Vl) (v : Vl) : Int :=
  if ¬ (1 ≤ v.kind ∧ v.kind ≤ 3 ∧ textB v.kind v.text = true) then 12 else if ¬ (1 ≤ v.frm ∧ v.frm ≤ v.to ∧ v.to ≤ P) then 13 else if before.any (meetB v) = true then 12 else 0
def vl (l : List Vl) (i : Nat) : Vl := l.getD i default
def valsE (P : Int) (l : List Vl) : Int := firstE (fun i => valE P (l.take i) (vl l i)) l.length
/-- The error of a sign but for its code. -/
def sgE (P : Int) (s : Sg) : Int := if ¬ ((1 ≤ s.wide ∧ s.wide ≤ 12) ∧ 1 ≤ s.high ∧ s.high ≤ 12) then 11 else if 12 < s.vals.length then 2 else valsE P s.vals
set_option maxRecDepth 100000 in
set_option maxHeartbeats 2000000 in
theorem checkValue_any (P : Int) (S : Value) (l : List Vl) (v : Vl) (A : Option Addr) (c : Nat) (hl : l.length ≤ 1000000) (w : World) (r : Vls w w.heap.size A l) :
    Calls Try.prog 84 #[.agg #[.int .i64 P, S], .slice A l.length c, .agg #[.int .i64 v.kind, .string v.text, .int .i64 v.frm, .int .i64 v.to]] w fun e w' => e = .returned (.int .i64 (valE P l v)) ∧ Below w.heap.size w w' := by
  obtain ⟨E, hE⟩ : ∃ E, E = valE P l v := ⟨_, rfl⟩
  rw [← hE]
  unfold valE at hE
  have hcon := fun (W : World) (b : Nat) (hv : VlAt W b 0 v) (hb : b < W.heap.size) (hr : Vls W W.heap.size A l) => contains_any l v A c b hl W hv hb hr
  have hvt := fun W => validText_any v.kind v.text W
  generalize l.any (meetB v) = m at hE hcon
  generalize textB v.kind v.text = x at hE hvt
  have hb1 : ∀ (o1 o2 : Obj), Below w.heap.size w ((w.alloc o1).alloc o2) := fun o1 o2 => ((Below.refl _ _).alloc (Nat.le_refl _) _).alloc (by simp) _
  have hcon2 := fun (S : Value) =>
    let W := (w.alloc (.cells #[.int .i64 P, S] 24)).alloc (.cells #[.int .i64 v.kind, .string v.text, .int .i64 v.frm, .int .i64 v.to] 108)
    hcon W (w.heap.size + 1) (by obtain ⟨k, t, f, g⟩ := v; refine ⟨?_, ?_, ?_, ?_⟩ <;> simp [W]) (by simp [W]) ((r.below (hb1 _ _)).more (by simp [W]; omega))
  have HC := hid (hcon2 S); have HT := hid hvt; have HE := hid hE; have HB := hid (hb1 (.cells #[.int .i64 P, S] 24) (.cells #[.int .i64 v.kind, .string v.text, .int .i64 v.frm, .int .i64 v.to] 108))
  clear hcon hcon2 hvt hE hb1 r
  obtain ⟨k, t, f, g⟩ := v
  simp only [] at HC HT HE HB ⊢
  obtain ⟨N, hN⟩ : ∃ N, N = l.length := ⟨_, rfl⟩
  rw [← hN] at HC ⊢
  clear hN hl
  cases x <;> cases m <;> simp only [Bool.false_eq_true, and_false, not_false_eq_true, if_true, and_true, if_false] at HE
  all_goals
    go_enter Try.func84, Try.ntmps84
    go_wp2_with (first
      | (go_at_call 100; refine (HT.out _).mono ?_; rintro e w3 ⟨rfl, rfl⟩)
      | (go_at_call 101; refine HC.out.mono ?_; rintro e w3 ⟨rfl, hb3⟩; have HB3 := hid (HB.out.trans (hb3.mono (by simp; omega))); clear hb3))
    all_goals
      go_ret
      refine ⟨congrArg (fun x => Ending.returned (.int .i64 x)) (Eq.trans ?_ HE.out.symm), by first | exact HB3.out | exact HB.out⟩
      first | rfl | ((repeat' split) <;> first | rfl | (exfalso; omega))
end Go.Proofs.Ytddbnggficlcfaa
