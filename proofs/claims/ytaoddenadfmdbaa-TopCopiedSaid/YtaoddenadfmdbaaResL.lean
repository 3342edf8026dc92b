/- PLAIN: all stretches put in give the other line; none, the base; a line has none against itself. -/
import Derived.Test.YtaoddenadfmdbaaApL
namespace Go.Proofs.Ytaoddenadfmdbaa
/-- Up to the place i of the base. -/
def putAll (a : List Int) : List Item → Nat → Nat → List Int
  | [], at_, i => (a.drop at_).take (i - at_)
  | x :: r, at_, i => (a.drop at_).take (x.1 - at_) ++ (x.2.2 ++ putAll a r (x.1 + x.2.1) i)
theorem putAll_snoc (a : List Int) (x : Item) (i : Nat) : ∀ (l : List Item) (at_ : Nat), putAll a (l ++ [x]) at_ i = putAll a l at_ x.1 ++ (x.2.2 ++ (a.drop (x.1 + x.2.1)).take (i - (x.1 + x.2.1)))
  | [], at_ => rfl
  | y :: r, at_ => by rw [List.cons_append, putAll, putAll, putAll_snoc a x i r, List.append_assoc, List.append_assoc]
theorem take_one_more (a : List Int) {at_ i : Nat} (h : at_ ≤ i) (hi : i < a.length) : (a.drop at_).take (i + 1 - at_) = (a.drop at_).take (i - at_) ++ [a[i]] := by
  rw [show i + 1 - at_ = (i - at_) + 1 by omega, List.take_add_one]
  congr 1
  rw [List.getElem?_drop, show at_ + (i - at_) = i by omega, List.getElem?_eq_getElem hi]
  rfl
theorem putAll_more (a : List Int) {i : Nat} (hi : i < a.length) : ∀ (l : List Item) (at_ : Nat), at_ ≤ i → (∀ x ∈ l, x.1 + x.2.1 ≤ i) → putAll a l at_ (i + 1) = putAll a l at_ i ++ [a[i]]
  | [], at_, h, _ => by rw [putAll, putAll, take_one_more a h hi]
  | x :: r, at_, h, hx => by
    rw [putAll, putAll, putAll_more a hi r _ (hx x (by simp)) (fun y hy => hx y (by simp [hy])), List.append_assoc, List.append_assoc]
/-- What holds when i places of the base and k of the other line are behind. -/
structure Wt (a b : List Int) (s : SS) (i k : Nat) : Prop where
  at_ : s.at_ = i
  ok : SOk s
  ends : ∀ x ∈ s.out, x.1 + x.2.1 ≤ i
  all : putAll a s.out 0 i = b.take k
  ne : ∀ x ∈ s.out, 1 ≤ x.2.1 + x.2.2.length
theorem Wt.step {a b : List Int} {s : SS} {i k : Nat} (h : Wt a b s i k) {l r : Int} (hl : l = -1 ∨ l = (i : Int) ∧ i < a.length) (hr : r = -1 ∨ r = (k : Int) ∧ k < b.length) (hlr : ¬ (l = -1 ∧ r = -1)) :
    Wt a b (s.step a b (l, r)) (i + one l) (k + one r) := by
  have hok := h.ok.step a b (l, r)
  obtain ⟨h1, h2, h3, h4, h5⟩ := h
  have ol : one l ≤ 1 := one_le l
  have hsg : b.take (k + one r) = b.take k ++ sgn b r := by
    rcases hr with rfl | ⟨rfl, hk⟩
    · simp [one, sgn]
    · rw [show one (k : Int) = 1 from by simp [one], List.take_add_one, List.getElem?_eq_getElem hk]
      simp [sgn, getI, List.getD, hk]
  by_cases hA : Agree a b (l, r)
  · have e : s.step a b (l, r) = ⟨s.at_ + 1, none, s.out⟩ := if_pos hA
    rw [e] at hok ⊢
    obtain ⟨g1, g2, g3⟩ := hA
    simp only at g1 g2 g3
    have hl' : l = (i : Int) ∧ i < a.length := by rcases hl with hl | hl; omega; exact hl
    have hr' : r = (k : Int) ∧ k < b.length := by rcases hr with hr | hr; omega; exact hr
    obtain ⟨rfl, hi⟩ := hl'
    obtain ⟨rfl, hk⟩ := hr'
    have o1 : one (i : Int) = 1 := by simp [one]
    have o2 : one (k : Int) = 1 := by simp [one]
    rw [o1, o2]
    refine ⟨by simp [h1], hok, fun x hx => ?_, ?_, fun x hx => h5 x (by simpa [SS.out] using hx)⟩
    · have := h3 x (by simpa [SS.out] using hx); omega
    · show putAll a s.out 0 (i + 1) = _
      rw [putAll_more a hi s.out 0 (Nat.zero_le _) h3, h4, List.take_add_one, List.getElem?_eq_getElem hk]
      have : a[i] = b[k] := by simpa [getI, List.getD, hi, hk] using g3
      rw [this]; rfl
  · have e : s.step a b (l, r) = ⟨s.at_ + one l, some (s.cur.1, s.cur.2.1 + one l, s.cur.2.2 ++ sgn b r), s.cl⟩ := if_neg hA
    rw [e] at hok ⊢
    have hne1 : 1 ≤ one l + (sgn b r).length := by
      rcases hl with rfl | ⟨rfl, hi⟩
      · rcases hr with rfl | ⟨rfl, hk⟩
        · exact absurd ⟨rfl, rfl⟩ hlr
        · simp [sgn]
      · simp [one]
    cases ho : s.op with
    | none =>
      have hout : s.out = s.cl := by unfold SS.out; rw [ho]
      have hcur : s.cur = (i, 0, []) := by unfold SS.cur; rw [ho, h1]; rfl
      rw [hcur] at hok ⊢
      refine ⟨by simp [h1], hok, fun x hx => ?_, ?_, fun x hx => ?_⟩
      · simp only [SS.out, List.mem_append, List.mem_singleton] at hx
        rcases hx with hx | rfl
        · have := h3 x (by rw [hout]; exact hx); omega
        · simp
      · show putAll a (s.cl ++ [(i, 0 + one l, [] ++ sgn b r)]) 0 (i + one l) = _
        rw [putAll_snoc, hsg]
        rw [hout] at h4
        simp [h4]
      · simp only [SS.out, List.mem_append, List.mem_singleton] at hx
        rcases hx with hx | rfl
        · exact h5 x (by rw [hout]; exact hx)
        · simpa using hne1
    | some y =>
      have hout : s.out = s.cl ++ [y] := by unfold SS.out; rw [ho]
      have hcur : s.cur = y := by unfold SS.cur; rw [ho]; rfl
      have hy := h2.end_ y ho
      rw [h1] at hy
      rw [hcur] at hok ⊢
      refine ⟨by simp [h1], hok, fun x hx => ?_, ?_, fun x hx => ?_⟩
      · simp only [SS.out, List.mem_append, List.mem_singleton] at hx
        rcases hx with hx | rfl
        · have := h3 x (by rw [hout]; simp [hx]); omega
        · simp; omega
      · show putAll a (s.cl ++ [(y.1, y.2.1 + one l, y.2.2 ++ sgn b r)]) 0 (i + one l) = _
        rw [putAll_snoc, hsg]
        rw [hout, putAll_snoc, hy, Nat.sub_self, List.take_zero, List.append_nil] at h4
        simp only
        rw [show y.1 + (y.2.1 + one l) = i + one l by omega, Nat.sub_self, List.take_zero, List.append_nil, ← h4, List.append_assoc]
      · simp only [SS.out, List.mem_append, List.mem_singleton] at hx
        rcases hx with hx | rfl
        · exact h5 x (by rw [hout]; simp [hx])
        · simp; omega
theorem Wt.run (a b : List Int) : ∀ (n i k : Nat) (A B : List Int) (s : SS), A = a.drop i → B = b.drop k → i ≤ a.length → k ≤ b.length → A.length + B.length ≤ n → Wt a b s i k → Wt a b ((tr n i k A B).foldl (SS.step a b) s) a.length b.length := by
  intro n
  induction n with
  | zero =>
    intro i k A B s hA hB hi hk hn h
    have h1 : A.length = 0 := by omega
    have h2 : B.length = 0 := by omega
    rw [hA, List.length_drop] at h1
    rw [hB, List.length_drop] at h2
    obtain rfl : i = a.length := by omega
    obtain rfl : k = b.length := by omega
    simpa [tr] using h
  | succ n ih =>
    intro i k A B s hA hB hi hk hn h
    have hlA : A.length = a.length - i := by rw [hA, List.length_drop]
    have hlB : B.length = b.length - k := by rw [hB, List.length_drop]
    cases A with
    | nil =>
      cases B with
      | nil =>
        simp at hlA hlB
        obtain rfl : i = a.length := by omega
        obtain rfl : k = b.length := by omega
        simpa [tr] using h
      | cons y B =>
        simp at hlB hlA
        rw [tr, List.foldl_cons]
        refine ih i (k + 1) [] B _ hA ?_ hi (by omega) (by simp at hn ⊢; omega) ?_
        · rw [← List.tail_drop, ← hB]; rfl
        · have := h.step (l := -1) (r := (k : Int)) (.inl rfl) (.inr ⟨rfl, by omega⟩) (by omega)
          simpa [one] using this
    | cons x A =>
      simp only [List.length_cons] at hlA hn
      have hdA : A = a.drop (i + 1) := by rw [← List.tail_drop, ← hA]; rfl
      cases B with
      | nil =>
        simp at hlB
        rw [tr, List.foldl_cons]
        refine ih (i + 1) k A [] _ hdA hB (by omega) hk (by simp at hn ⊢; omega) ?_
        have := h.step (l := (i : Int)) (r := -1) (.inr ⟨rfl, by omega⟩) (.inl rfl) (by omega)
        simpa [one] using this
      | cons y B =>
        simp only [List.length_cons] at hlB hn
        have hdB : B = b.drop (k + 1) := by rw [← List.tail_drop, ← hB]; rfl
        rw [tr]
        split
        · rw [List.foldl_cons]
          refine ih (i + 1) (k + 1) A B _ hdA hdB (by omega) (by omega) (by omega) ?_
          have := h.step (l := (i : Int)) (r := (k : Int)) (.inr ⟨rfl, by omega⟩) (.inr ⟨rfl, by omega⟩) (by omega)
          simpa [one] using this
        · split
          · rw [List.foldl_cons]
            refine ih (i + 1) k A (y :: B) _ hdA hB (by omega) hk (by simp; omega) ?_
            have := h.step (l := (i : Int)) (r := -1) (.inr ⟨rfl, by omega⟩) (.inl rfl) (by omega)
            simpa [one] using this
          · rw [List.foldl_cons]
            refine ih i (k + 1) (x :: A) B _ hA hdB hi (by omega) (by simp; omega) ?_
            have := h.step (l := -1) (r := (k : Int)) (.inl rfl) (.inr ⟨rfl, by omega⟩) (by omega)
            simpa [one] using this
theorem strs_wt (a b : List Int) : ∃ s : SS, strs a b = s.out ∧ Wt a b s a.length b.length :=
  ⟨_, rfl, Wt.run a b _ 0 0 a b ⟨0, none, []⟩ rfl rfl (Nat.zero_le _) (Nat.zero_le _) (Nat.le_refl _) ⟨rfl, ⟨List.Pairwise.nil, (fun _ x hx => by cases hx), fun x hx => by cases hx⟩, (fun x hx => by cases hx), rfl, fun x hx => by cases hx⟩⟩
theorem strs_ne (a b : List Int) : ∀ x ∈ strs a b, 1 ≤ x.2.1 + x.2.2.length := by
  obtain ⟨s, h1, h2⟩ := strs_wt a b
  rw [h1]; exact h2.ne
theorem putAll_end (a : List Int) : ∀ (l : List Item) (at_ : Nat), apF a (l.map fun x => (x, true)) at_ = putAll a l at_ a.length
  | [], at_ => by simp only [List.map_nil]; rw [apF, putAll, List.take_of_length_le (by simp)]
  | x :: r, at_ => by rw [List.map_cons, apF, if_pos rfl, putAll, putAll_end a r]
theorem zip_rep {α β : Type} (l : List α) (c : β) : l.zip (List.replicate l.length c) = l.map fun x => (x, c) := by
  induction l with
  | nil => rfl
  | cons x r ih => simp [List.replicate_succ, ih]
/-- All of them: the other line. -/
theorem ap_all (a b : List Int) : apF a ((strs a b).zip (List.replicate (strs a b).length true)) 0 = b := by
  rw [zip_rep, putAll_end]
  obtain ⟨s, h1, h2⟩ := strs_wt a b
  rw [h1, h2.all, List.take_length]
/-- None: the base. -/
theorem ap_none (a : List Int) : ∀ (l : List Item), apF a (l.zip (List.replicate l.length false)) 0 = a
  | [] => rfl
  | x :: r => by rw [List.length_cons, List.replicate_succ, List.zip_cons_cons, apF, if_neg (by decide)]; exact ap_none a r
theorem self_run (a : List Int) : ∀ (n i : Nat) (A : List Int) (s : SS), A = a.drop i → s.op = none → s.cl = [] → ((tr n i i A A).foldl (SS.step a a) s).out = [] := by
  intro n
  induction n with
  | zero => intro i A s _ h1 h2; simp [tr, SS.out, h1, h2]
  | succ n ih =>
    intro i A s hA h1 h2
    cases A with
    | nil => simp [tr, SS.out, h1, h2]
    | cons x A =>
      have hi : i < a.length := by
        have := congrArg List.length hA
        simp at this
        omega
      have hx : a.getD i 0 = x := by
        have h3 := congrArg (fun l => l[0]?) hA
        simp [List.getElem?_drop, hi] at h3
        simp [List.getD, hi, h3]
      have hD : D (x :: A) (x :: A) = bc x x + D A A := by rw [D_self, D_self]; simp [bc]
      rw [tr, if_pos hD, List.foldl_cons]
      refine ih (i + 1) A _ ?_ ?_ ?_
      · rw [← List.tail_drop, ← hA]; rfl
      · unfold SS.step; rw [if_pos ⟨by simp, by simp, rfl⟩]
      · unfold SS.step; rw [if_pos ⟨by simp, by simp, rfl⟩]; simp [SS.out, h1, h2]
theorem strs_self (a : List Int) : strs a a = [] := self_run a _ 0 a ⟨0, none, []⟩ rfl rfl rfl
theorem strs_none (a b : List Int) : strs a b = [] ↔ a = b := by
  constructor
  · intro h
    have := ap_all a b
    rw [h] at this
    simpa [apF] using this
  · rintro rfl; exact strs_self a
end Go.Proofs.Ytaoddenadfmdbaa
