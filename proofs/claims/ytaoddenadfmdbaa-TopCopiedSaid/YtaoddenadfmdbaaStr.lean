/- PLAIN: the stretches of a copy that do not agree with the base. No program in sight. -/
import Derived.Test.YtaoddenadfmdbaaAln
namespace Go.Proofs.Ytaoddenadfmdbaa
/-- A stretch: where it begins in the base, how many places of the base it takes, the signs of the copy. -/
abbrev Item := Nat × Nat × List Int
def getI (l : List Int) (j : Int) : Int := l.getD j.toNat 0
def Agree (base other : List Int) (p : Int × Int) : Prop := 0 ≤ p.1 ∧ 0 ≤ p.2 ∧ getI base p.1 = getI other p.2
instance (base other : List Int) (p : Int × Int) : Decidable (Agree base other p) := by unfold Agree; exact inferInstance
/-- The places before, the stretch that is open, the stretches before it. -/
structure SS where
  at_ : Nat
  op : Option Item
  cl : List Item
def SS.out (s : SS) : List Item := match s.op with | none => s.cl | some x => s.cl ++ [x]
def SS.cur (s : SS) : Item := s.op.getD (s.at_, 0, [])
def one (p : Int) : Nat := if 0 ≤ p then 1 else 0
def sgn (other : List Int) (r : Int) : List Int := if 0 ≤ r then [getI other r] else []
def SS.step (base other : List Int) (s : SS) (p : Int × Int) : SS :=
  if Agree base other p then ⟨s.at_ + 1, none, s.out⟩
  else ⟨s.at_ + one p.1, some (s.cur.1, s.cur.2.1 + one p.1, s.cur.2.2 ++ sgn other p.2), s.cl⟩
def run (base other : List Int) (ps : List (Int × Int)) : SS := ps.foldl (SS.step base other) ⟨0, none, []⟩
def strs (base other : List Int) : List Item := (run base other (pairsOf base other)).out
theorem run_snoc (base other : List Int) (ps : List (Int × Int)) (p : Int × Int) : run base other (ps ++ [p]) = (run base other ps).step base other p := by simp [run, List.foldl_append]
/-- A pair of places of two lines. -/
def OkPair (m n : Nat) (p : Int × Int) : Prop := (p.1 = -1 ∨ 0 ≤ p.1 ∧ p.1 < m) ∧ (p.2 = -1 ∨ 0 ≤ p.2 ∧ p.2 < n) ∧ (0 ≤ p.1 ∨ 0 ≤ p.2)
theorem tr_ok : ∀ (n i k : Nat) (a b : List Int) (la lb : Nat), i + a.length = la → k + b.length = lb → ∀ p ∈ tr n i k a b, OkPair la lb p
  | 0, _, _, _, _, _, _, _, _ => by simp [tr]
  | _ + 1, _, _, [], [], _, _, _, _ => by simp [tr]
  | n + 1, i, k, [], y :: b, la, lb, h1, h2 => by
    intro p hp
    simp only [tr, List.mem_cons] at hp
    simp only [List.length_cons] at h2
    rcases hp with rfl | hp
    · exact ⟨.inl rfl, .inr ⟨by simp, by simp; omega⟩, .inr (by simp)⟩
    · exact tr_ok n i (k + 1) [] b la lb h1 (by omega) p hp
  | n + 1, i, k, x :: a, [], la, lb, h1, h2 => by
    intro p hp
    simp only [tr, List.mem_cons] at hp
    simp only [List.length_cons] at h1
    rcases hp with rfl | hp
    · exact ⟨.inr ⟨by simp, by simp; omega⟩, .inl rfl, .inl (by simp)⟩
    · exact tr_ok n (i + 1) k a [] la lb (by omega) h2 p hp
  | n + 1, i, k, x :: a, y :: b, la, lb, h1, h2 => by
    intro p hp
    rw [tr] at hp
    simp only [List.length_cons] at h1 h2
    split at hp
    · rcases List.mem_cons.1 hp with rfl | hp
      · exact ⟨.inr ⟨by simp, by simp; omega⟩, .inr ⟨by simp, by simp; omega⟩, .inl (by simp)⟩
      · exact tr_ok n (i + 1) (k + 1) a b la lb (by omega) (by omega) p hp
    · split at hp
      · rcases List.mem_cons.1 hp with rfl | hp
        · exact ⟨.inr ⟨by simp, by simp; omega⟩, .inl rfl, .inl (by simp)⟩
        · exact tr_ok n (i + 1) k a (y :: b) la lb (by omega) (by simp; omega) p hp
      · rcases List.mem_cons.1 hp with rfl | hp
        · exact ⟨.inl rfl, .inr ⟨by simp, by simp; omega⟩, .inr (by simp)⟩
        · exact tr_ok n i (k + 1) (x :: a) b la lb (by simp; omega) (by omega) p hp
theorem pairs_ok (a b : List Int) : ∀ p ∈ pairsOf a b, OkPair a.length b.length p := tr_ok _ 0 0 a b _ _ (by simp) (by simp)
theorem take_snoc {ps : List (Int × Int)} {k : Nat} (h : k < ps.length) : ps.take (k + 1) = ps.take k ++ [ps[k]] := by
  rw [List.take_succ_eq_append_getElem h]
def stAt (base other : List Int) (k : Nat) : SS := run base other ((pairsOf base other).take k)
theorem stAt_succ {base other : List Int} {k : Nat} (h : k < (pairsOf base other).length) : stAt base other (k + 1) = (stAt base other k).step base other ((pairsOf base other)[k]) := by
  unfold stAt; rw [take_snoc h, run_snoc]
theorem strs_eq (base other : List Int) : strs base other = (stAt base other (pairsOf base other).length).out := by
  unfold strs stAt; rw [List.take_length]
theorem one_le (p : Int) : one p ≤ 1 := by unfold one; split <;> omega
theorem sgn_len (other : List Int) (r : Int) : (sgn other r).length ≤ 1 := by unfold sgn; split <;> simp
/-- What the counts of a state are bounded by. -/
structure SS.Bd (s : SS) (k : Nat) : Prop where
  at_ : s.at_ ≤ k
  out : s.out.length ≤ k
  item : ∀ x ∈ s.out, x.1 ≤ k ∧ x.2.1 ≤ k ∧ x.2.2.length ≤ k
  op : ∀ x, s.op = some x → x.1 + x.2.1 = s.at_
theorem SS.Bd.step {s : SS} {k : Nat} (h : s.Bd k) (base other : List Int) (p : Int × Int) : (s.step base other p).Bd (k + 1) := by
  unfold SS.step
  split
  · exact ⟨by have := h.at_; simp; omega, by have := h.out; simp [SS.out] at *; omega, fun x hx => by have := h.item x (by simpa [SS.out] using hx); omega, fun x hx => by cases hx⟩
  · obtain ⟨a, o, c⟩ := s
    have h1 := h.at_
    have h2 := h.out
    have h3 := h.item
    have h4 := h.op
    have l1 := one_le p.1
    have l2 := sgn_len other p.2
    cases o with
    | none =>
      simp only [SS.out, SS.cur, Option.getD_none] at *
      refine ⟨by simp; omega, by simp [SS.out]; omega, fun x hx => ?_, fun x hx => ?_⟩
      · simp only [SS.out, List.mem_append, List.mem_singleton] at hx
        rcases hx with hx | rfl
        · have := h3 x hx; omega
        · simp; omega
      · simp only [Option.some.injEq] at hx; subst hx; simp
    | some y =>
      simp only [SS.out, SS.cur, Option.getD_some, List.length_append, List.length_singleton] at *
      have hy := h3 y (by simp)
      have hy2 := h4 y rfl
      refine ⟨by simp; omega, by simp [SS.out]; omega, fun x hx => ?_, fun x hx => ?_⟩
      · simp only [SS.out, List.mem_append, List.mem_singleton] at hx
        rcases hx with hx | rfl
        · have := h3 x (by simp [hx]); omega
        · simp; omega
      · simp only [Option.some.injEq] at hx; subst hx; simp; omega
theorem stAt_bd (base other : List Int) : ∀ k, k ≤ (pairsOf base other).length → (stAt base other k).Bd k := by
  intro k
  induction k with
  | zero => intro _; exact ⟨by simp [stAt, run], by simp [stAt, run, SS.out], by simp [stAt, run, SS.out], by simp [stAt, run]⟩
  | succ k ih => intro h; rw [stAt_succ (by omega)]; exact (ih (by omega)).step _ _ _
theorem pairs_len (a b : List Int) : (pairsOf a b).length ≤ a.length + b.length := tr_len _ _ _ _ _
end Go.Proofs.Ytaoddenadfmdbaa
