/- PLAIN LAW: the kids of a node in a list of nodes whose depths are right, the parent of a node, and that both ways of looking at families find the same. -/
import Derived.Test.YtimblabaeclhpaaGreatOrder
namespace Go.Proofs.YtimblabaeclhpaaGreat
/-- The depths of the nodes are right. -/
structure WfN (l : List Nd) : Prop where
  first : dep l 0 = 0
  pos : ∀ i, i < l.length → 0 ≤ dep l i
  step : ∀ i, i + 1 < l.length → dep l (i + 1) ≤ dep l i + 1
  leaf : ∀ i, i + 1 < l.length → leafB (kd l i) = true → dep l (i + 1) ≤ dep l i
theorem endR_in {l : List Nd} {d : Int} : ∀ (f k j : Nat), k ≤ j → j < endR l d f k → j < l.length ∧ d < dep l j
  | 0, k, j, h1, h2 => by
    unfold endR at h2
    omega
  | f + 1, k, j, h1, h2 => by
    unfold endR at h2
    split at h2
    · rename_i h
      rcases Nat.eq_or_lt_of_le h1 with rfl | h3
      · exact h
      · exact endR_in f (k + 1) j h3 h2
    · omega
theorem endOf_in {l : List Nd} {i j : Nat} (h1 : i < j) (h2 : j < endOf l i) : j < l.length ∧ dep l i < dep l j := endR_in _ _ _ h1 h2
theorem endR_at {l : List Nd} {d : Int} : ∀ (f k : Nat), l.length ≤ f + k → endR l d f k < l.length → dep l (endR l d f k) ≤ d
  | 0, k, h1, h2 => by
    unfold endR at h2
    omega
  | f + 1, k, h1, h2 => by
    unfold endR at h2 ⊢
    split at h2
    · rename_i h
      rw [if_pos h]
      exact endR_at f (k + 1) (by omega) h2
    · rename_i h
      rw [if_neg h]
      exact Int.not_lt.1 fun h3 => h ⟨h2, h3⟩
theorem endOf_at {l : List Nd} {i : Nat} (h : endOf l i < l.length) : dep l (endOf l i) ≤ dep l i := endR_at _ _ (by omega) h
/-- The kids as the document has them. -/
def rkR (l : List Nd) (d : Int) : Nat → Nat → List Nat
  | 0, _ => []
  | f + 1, k => if k < l.length ∧ d ≤ dep l k then (if dep l k = d then k :: rkR l d f (k + 1) else rkR l d f (k + 1)) else []
def rkFrom (l : List Nd) (d : Int) (k : Nat) : List Nat := rkR l d (l.length - k) k
def rkids (l : List Nd) (node : Int) : List Nat := if 0 ≤ node then rkFrom l (dep l node.toNat + 1) (node.toNat + 1) else rkFrom l 0 0
theorem rkFrom_stop {l : List Nd} {d : Int} {k : Nat} (h : ¬ (k < l.length ∧ d ≤ dep l k)) : rkFrom l d k = [] := by
  unfold rkFrom
  cases l.length - k with
  | zero => rfl
  | succ f => exact if_neg h
theorem rkFrom_s {l : List Nd} {d : Int} {k : Nat} (h : k < l.length) (h2 : d ≤ dep l k) : rkFrom l d k = if dep l k = d then k :: rkFrom l d (k + 1) else rkFrom l d (k + 1) := by
  unfold rkFrom
  obtain ⟨f, hf⟩ : ∃ f, l.length - k = f + 1 := ⟨l.length - k - 1, by omega⟩
  have hf2 : l.length - (k + 1) = f := by omega
  rw [hf, hf2, rkR, if_pos ⟨h, h2⟩]
theorem rkFrom_skip {l : List Nd} {d : Int} : ∀ (n k : Nat), (∀ j, k ≤ j → j < k + n → j < l.length ∧ d < dep l j) → rkFrom l d k = rkFrom l d (k + n)
  | 0, _, _ => rfl
  | n + 1, k, h => by
    have h1 := h k (Nat.le_refl _) (by omega)
    rw [rkFrom_s h1.1 (by omega), if_neg (by omega), rkFrom_skip n (k + 1) fun j hj1 hj2 => h j (by omega) (by omega)]
    congr 1
    omega
theorem rk_eq {l : List Nd} {d : Int} {to : Nat} (hto : to ≤ l.length) (hin : ∀ j, j < to → d ≤ dep l j ∨ True) : ∀ (n k : Nat), to ≤ k + n → k ≤ to → (∀ j, k ≤ j → j < to → d ≤ dep l j) → (k < to → dep l k = d) →
    (¬ (to < l.length ∧ d ≤ dep l to)) → rkFrom l d k = kidsFrom l to k
  | n, k, hn, hk, hall, hfst, hst => by
    by_cases h : k < to
    · have hd := hfst h
      rw [kidsFrom_s h, rkFrom_s (by omega) (by omega), if_pos hd]
      congr 1
      have hgt := endOf_gt l k
      have hle : endOf l k ≤ to := Nat.not_lt.1 fun h2 => by
        have h3 := endOf_in h h2
        exact hst ⟨h3.1, by omega⟩
      obtain ⟨m, hm⟩ : ∃ m, endOf l k = k + 1 + m := ⟨endOf l k - (k + 1), by omega⟩
      rw [rkFrom_skip m (k + 1) fun j hj1 hj2 => by
        have := endOf_in (l := l) (i := k) (j := j) (by omega) (by omega)
        exact ⟨this.1, by omega⟩, ← hm]
      cases n with
      | zero => omega
      | succ n =>
        refine rk_eq hto hin n (endOf l k) (by omega) hle (fun j hj1 hj2 => hall j (by omega) hj2) (fun h2 => ?_) hst
        have h3 := endOf_at (l := l) (i := k) (by omega)
        have h4 := hall (endOf l k) (by omega) h2
        omega
    · obtain rfl : k = to := by omega
      rw [kidsFrom_stop h, rkFrom_stop hst]
theorem rkids_eq {l : List Nd} (hw : WfN l) {node : Int} (h1 : -1 ≤ node) (h2 : node < l.length) : rkids l node = kidsOf l node := by
  unfold rkids kidsOf kidsTo kidsFr
  by_cases h0 : 0 ≤ node
  · rw [if_pos h0, if_pos h0, if_pos h0]
    obtain ⟨i, rfl⟩ : ∃ i : Nat, node = i := ⟨node.toNat, by omega⟩
    simp only [Int.toNat_natCast]
    have hi : i < l.length := by omega
    have hgt := endOf_gt l i
    refine rk_eq (endOf_le hi) (fun _ _ => .inr trivial) (endOf l i) (i + 1) (by omega) hgt (fun j hj1 hj2 => ?_) (fun h => ?_) (fun h => ?_)
    · have := endOf_in (l := l) (i := i) (j := j) (by omega) hj2
      omega
    · have h3 := endOf_in (l := l) (i := i) (j := i + 1) (by omega) h
      have h4 := hw.step i h3.1
      omega
    · have := endOf_at (l := l) (i := i) h.1
      omega
  · rw [if_neg h0, if_neg h0, if_neg h0]
    exact rk_eq (Nat.le_refl _) (fun _ _ => .inr trivial) l.length 0 (by omega) (by omega) (fun j _ hj => hw.pos j hj) (fun _ => hw.first) (fun h => by omega)
theorem rk_mem {l : List Nd} {d : Int} : ∀ (f k x : Nat), x ∈ rkR l d f k → k ≤ x ∧ x < l.length ∧ dep l x = d ∧ ∀ j, k ≤ j → j ≤ x → d ≤ dep l j
  | 0, _, x, h => by cases h
  | f + 1, k, x, h => by
    unfold rkR at h
    split at h
    · rename_i h1
      have hgo : x ∈ rkR l d f (k + 1) → k ≤ x ∧ x < l.length ∧ dep l x = d ∧ ∀ j, k ≤ j → j ≤ x → d ≤ dep l j := fun h3 => by
        obtain ⟨a1, a2, a3, a4⟩ := rk_mem f (k + 1) x h3
        refine ⟨by omega, a2, a3, fun j hj1 hj2 => ?_⟩
        rcases Nat.eq_or_lt_of_le hj1 with rfl | hj3
        · exact h1.2
        · exact a4 j hj3 hj2
      split at h
      · rename_i h2
        rcases List.mem_cons.1 h with rfl | h3
        · exact ⟨Nat.le_refl _, h1.1, h2, fun j hj1 hj2 => by rw [show j = x by omega]; exact h1.2⟩
        · exact hgo h3
      · exact hgo h
    · cases h
theorem rk_in {l : List Nd} {d : Int} : ∀ (f k x : Nat), l.length ≤ f + k → k ≤ x → x < l.length → dep l x = d → (∀ j, k ≤ j → j ≤ x → d ≤ dep l j) → x ∈ rkR l d f k
  | 0, k, x, h0, h1, h2, _, _ => by omega
  | f + 1, k, x, h0, h1, h2, h3, h4 => by
    unfold rkR
    rw [if_pos ⟨by omega, h4 k (Nat.le_refl _) h1⟩]
    rcases Nat.eq_or_lt_of_le h1 with rfl | h5
    · rw [if_pos h3]
      exact List.mem_cons_self
    · have := rk_in f (k + 1) x (by omega) h5 h2 h3 fun j hj1 hj2 => h4 j (by omega) hj2
      split
      · exact List.mem_cons_of_mem _ this
      · exact this
/-- The kids are the nodes that lie one deeper, as far as all lie deeper. -/
theorem kid_iff {l : List Nd} (hw : WfN l) {i x : Nat} (hi : i < l.length) : x ∈ kidsOf l (i : Int) ↔ i < x ∧ x < l.length ∧ dep l x = dep l i + 1 ∧ ∀ j, i < j → j ≤ x → dep l i < dep l j := by
  rw [← rkids_eq hw (by omega) (by omega)]
  unfold rkids rkFrom
  rw [if_pos (by omega)]
  simp only [Int.toNat_natCast]
  constructor
  · intro h
    obtain ⟨a1, a2, a3, a4⟩ := rk_mem _ _ _ h
    exact ⟨by omega, a2, a3, fun j hj1 hj2 => by have := a4 j (by omega) hj2; omega⟩
  · rintro ⟨a1, a2, a3, a4⟩
    exact rk_in _ _ _ (by omega) (by omega) a2 a3 fun j hj1 hj2 => by have := a4 j (by omega) hj2; omega
/-- The last node before k that lies less deep; -1: there is none. -/
def parR (l : List Nd) (d : Int) : Nat → Int
  | 0 => -1
  | k + 1 => if dep l k < d then k else parR l d k
def parOf (l : List Nd) (i : Nat) : Int := parR l (dep l i) i
theorem parR_ge {l : List Nd} {d : Int} : ∀ k : Nat, -1 ≤ parR l d k ∧ parR l d k < k
  | 0 => by unfold parR; omega
  | k + 1 => by
    unfold parR
    have := parR_ge (l := l) (d := d) k
    split <;> omega
theorem parR_out {l : List Nd} {d : Int} : ∀ (k : Nat) (j : Nat), parR l d k < j → j < k → d ≤ dep l j
  | 0, j, _, h => by omega
  | k + 1, j, h1, h2 => by
    unfold parR at h1
    split at h1
    · omega
    · rename_i h
      rcases Nat.eq_or_lt_of_le (Nat.le_of_lt_succ h2) with rfl | h3
      · omega
      · exact parR_out k j h1 h3
theorem parR_at {l : List Nd} {d : Int} : ∀ (k p : Nat), parR l d k = p → dep l p < d
  | 0, p, h => by unfold parR at h; omega
  | k + 1, p, h => by
    unfold parR at h
    split at h
    · rename_i h1
      obtain rfl : k = p := by omega
      exact h1
    · exact parR_at k p h
theorem parR_of {l : List Nd} {d : Int} {p : Nat} (hp : dep l p < d) : ∀ (k : Nat), p < k → (∀ j, p < j → j < k → d ≤ dep l j) → parR l d k = p
  | 0, h, _ => by omega
  | k + 1, h1, h2 => by
    unfold parR
    rcases Nat.eq_or_lt_of_le (Nat.le_of_lt_succ h1) with rfl | h3
    · rw [if_pos hp]
    · rw [if_neg (by have := h2 k h3 (by omega); omega)]
      exact parR_of hp k h3 fun j hj1 hj2 => h2 j hj1 (by omega)
theorem kid_par {l : List Nd} (hw : WfN l) {i x : Nat} (hi : i < l.length) (h : x ∈ kidsOf l (i : Int)) : parOf l x = i ∧ 0 < dep l x := by
  obtain ⟨a1, a2, a3, a4⟩ := (kid_iff hw hi).1 h
  have := hw.pos i hi
  exact ⟨parR_of (by omega) _ a1 fun j hj1 hj2 => by have := a4 j hj1 (by omega); omega, by omega⟩
theorem par_kid {l : List Nd} (hw : WfN l) {x : Nat} (hx : x < l.length) (h : 0 < dep l x) : ∃ p : Nat, parOf l x = p ∧ p < x ∧ x ∈ kidsOf l (p : Int) ∧ dep l x = dep l p + 1 := by
  have hg := parR_ge (l := l) (d := dep l x) x
  have hne : parR l (dep l x) x ≠ -1 := fun h2 => by
    have h3 := parR_out (l := l) (d := dep l x) x 0 (by omega) (Nat.pos_of_ne_zero fun h4 => by subst h4; have := hw.first; omega)
    have := hw.first
    omega
  obtain ⟨p, hp⟩ : ∃ p : Nat, parR l (dep l x) x = p := ⟨(parR l (dep l x) x).toNat, by omega⟩
  have h1 := parR_at _ _ hp
  have h2 : ∀ j, p < j → j < x → dep l x ≤ dep l j := fun j hj1 hj2 => parR_out x j (by omega) hj2
  have h3 : dep l (p + 1) ≤ dep l p + 1 := hw.step p (by omega)
  have h4 : dep l x = dep l p + 1 := by
    rcases Nat.eq_or_lt_of_le (show p + 1 ≤ x by omega) with h5 | h5
    · rw [h5] at h3
      omega
    · have := h2 (p + 1) (by omega) h5
      omega
  refine ⟨p, hp, by omega, (kid_iff hw (by omega)).2 ⟨by omega, hx, h4, fun j hj1 hj2 => ?_⟩, h4⟩
  rcases Nat.eq_or_lt_of_le hj2 with rfl | h5
  · omega
  · have := h2 j hj1 h5
    omega
/-- The kind of the last node of a depth before k. -/
def lastK (l : List Nd) (d : Int) : Nat → Int
  | 0 => 0
  | k + 1 => if dep l k = d then kd l k else lastK l d k
theorem lastK_of {l : List Nd} {d : Int} {p : Nat} (hp : dep l p = d) : ∀ (k : Nat), p < k → (∀ j, p < j → j < k → dep l j ≠ d) → lastK l d k = kd l p
  | 0, h, _ => by omega
  | k + 1, h1, h2 => by
    unfold lastK
    rcases Nat.eq_or_lt_of_le (Nat.le_of_lt_succ h1) with rfl | h3
    · rw [if_pos hp]
    · rw [if_neg (h2 k h3 (by omega))]
      exact lastK_of hp k h3 fun j hj1 hj2 => h2 j hj1 (by omega)
/-- What the program takes as the kind of the parent. -/
def parK (l : List Nd) (i : Nat) : Int := if 0 < dep l i then lastK l (dep l i - 1) i else 0
theorem parK_eq {l : List Nd} (hw : WfN l) {x p : Nat} (hx : x < l.length) (h : 0 < dep l x) (hp : parOf l x = p) : parK l x = kd l p := by
  obtain ⟨q, hq, h1, h2, h3⟩ := par_kid hw hx h
  obtain rfl : q = p := by omega
  unfold parK
  rw [if_pos h]
  refine lastK_of (by omega) _ h1 fun j hj1 hj2 => ?_
  have := parR_out (l := l) (d := dep l x) x j (by unfold parOf at hq; omega) hj2
  omega
/-- How many of some nodes are of a kind. -/
def cntK (l : List Nd) (ks : List Nat) (k : Int) : Nat := (ks.filter fun j => decide (kd l j = k)).length
theorem cntK_zero {l : List Nd} {ks : List Nat} {k : Int} : cntK l ks k = 0 ↔ ∀ j ∈ ks, kd l j ≠ k := by
  unfold cntK
  rw [List.length_eq_zero_iff, List.filter_eq_nil_iff]
  simp
theorem cntK_all {l : List Nd} {ks : List Nat} {k : Int} : cntK l ks k = ks.length ↔ ∀ j ∈ ks, kd l j = k := by
  unfold cntK
  rw [List.length_filter_eq_length_iff]
  simp
/-- The program's look at a family: the kids of i, and the parent's kind. -/
def famP (l : List Nd) (i : Nat) (ks : List Nat) (par : Int) : Prop :=
  (kd l i = 5 ∨ cntK l ks 7 = 0) ∧
  (kd l i = 2 → 2 ≤ ks.length ∧ ks.length ≤ 6 ∧ cntK l ks 2 = 0) ∧
  (kd l i = 3 → 2 ≤ ks.length ∧ ks.length ≤ 6 ∧ cntK l ks 3 = 0) ∧
  (kd l i = 4 → ks.length = 2 ∧ cntK l ks 1 = 2) ∧
  (kd l i = 5 → 1 ≤ ks.length ∧ ks.length ≤ 6 ∧ cntK l ks 2 = 0 ∧ dep l i = 0 ∧ (cntK l ks 7 = 0 ∨ ks.length = 1)) ∧
  (kd l i = 7 → 2 ≤ ks.length ∧ ks.length ≤ 6 ∧ cntK l ks 2 = 0 ∧ (dep l i = 0 ∨ par = 5))
/-- May a node of the kind k have a kid of the kind m? -/
def kidOk (k m : Int) : Bool := !(decide (k = 4 ∧ m ≠ 1) || decide ((k = 2 ∨ k = 5 ∨ k = 7) ∧ m = 2) || decide (k = 3 ∧ m = 3) || decide (k = 7 ∧ m = 7))
/-- The document's look at a family. -/
def famR (l : List Nd) (i : Nat) (ks : List Nat) (par : Int) (pks : List Nat) : Prop :=
  (if leafB (kd l i) = true then ks.length = 0 else if kd l i = 5 then 1 ≤ ks.length ∧ ks.length ≤ 6 else if kd l i = 4 then ks.length = 2 else 2 ≤ ks.length ∧ ks.length ≤ 6) ∧
  (kd l i = 5 → dep l i ≤ 0) ∧
  (kd l i = 7 → 0 < dep l i → par = 5 ∧ pks.length = 1) ∧
  ∀ j ∈ ks, kidOk (kd l i) (kd l j) = true
theorem leaf_none {l : List Nd} (hw : WfN l) {i : Nat} (hi : i < l.length) (h : leafB (kd l i) = true) : kidsOf l (i : Int) = [] := by
  rw [List.eq_nil_iff_forall_not_mem]
  intro x hx
  obtain ⟨a1, a2, a3, a4⟩ := (kid_iff hw hi).1 hx
  have h1 := a4 (i + 1) (by omega) (by omega)
  have h2 := hw.leaf i (by omega) h
  omega
def famPs (l : List Nd) (i : Nat) : Prop := famP l i (kidsOf l (i : Int)) (parK l i)
def famRs (l : List Nd) (i : Nat) : Prop := famR l i (kidsOf l (i : Int)) (kd l (parOf l i).toNat) (kidsOf l (parOf l i))
theorem fam_law {l : List Nd} (hw : WfN l) (hk : ∀ i, i < l.length → 1 ≤ kd l i ∧ kd l i ≤ 7) : (∀ i, i < l.length → famPs l i) ↔ (∀ i, i < l.length → famRs l i) := by
  constructor
  · intro h i hi
    obtain ⟨p1, p2, p3, p4, p5, p6⟩ := h i hi
    have hki := hk i hi
    refine ⟨?_, ?_, ?_, ?_⟩
    · split
      · rename_i h1
        rw [leaf_none hw hi h1]
        rfl
      · rename_i h1
        have h2 : kd l i ≠ 1 ∧ kd l i ≠ 6 := by
          unfold leafB at h1
          simpa using h1
        split
        · rename_i h5
          exact ⟨(p5 h5).1, (p5 h5).2.1⟩
        · split
          · rename_i h4
            exact (p4 h4).1
          · have : kd l i = 2 ∨ kd l i = 3 ∨ kd l i = 7 := by omega
            rcases this with h3 | h3 | h3
            · exact ⟨(p2 h3).1, (p2 h3).2.1⟩
            · exact ⟨(p3 h3).1, (p3 h3).2.1⟩
            · exact ⟨(p6 h3).1, (p6 h3).2.1⟩
    · intro h5
      have := (p5 h5).2.2.2.1
      omega
    · intro h7 hd
      obtain ⟨p, hp, hpx, hmem, _⟩ := par_kid hw hi hd
      rw [hp]
      simp only [Int.toNat_natCast]
      have hpar : kd l p = 5 := by
        rw [← parK_eq hw hi hd hp]
        rcases (p6 h7).2.2.2 with h8 | h8
        · omega
        · exact h8
      refine ⟨hpar, ?_⟩
      obtain ⟨-, -, -, -, q5, -⟩ := h p (by omega)
      rcases (q5 hpar).2.2.2.2 with h8 | h8
      · exact absurd h7 (cntK_zero.1 h8 i hmem)
      · exact h8
    · intro j hj
      unfold kidOk
      simp only [Bool.not_eq_true', Bool.or_eq_false_iff, decide_eq_false_iff_not]
      refine ⟨⟨⟨?_, ?_⟩, ?_⟩, ?_⟩
      · rintro ⟨h4, h1⟩
        have h5 := p4 h4
        exact h1 (cntK_all.1 (h5.2.trans h5.1.symm) j hj)
      · rintro ⟨h4 | h4 | h4, h1⟩
        · exact cntK_zero.1 (p2 h4).2.2 j hj h1
        · exact cntK_zero.1 (p5 h4).2.2.1 j hj h1
        · exact cntK_zero.1 (p6 h4).2.2.1 j hj h1
      · rintro ⟨h4, h1⟩
        exact cntK_zero.1 (p3 h4).2.2 j hj h1
      · rintro ⟨h4, h1⟩
        rcases p1 with h5 | h5
        · omega
        · exact cntK_zero.1 h5 j hj h1
  · intro h i hi
    obtain ⟨r1, r2, r3, r4⟩ := h i hi
    have hkid : ∀ j ∈ kidsOf l (i : Int), ¬ (kd l i = 4 ∧ kd l j ≠ 1) ∧ ¬ ((kd l i = 2 ∨ kd l i = 5 ∨ kd l i = 7) ∧ kd l j = 2) ∧ ¬ (kd l i = 3 ∧ kd l j = 3) ∧ ¬ (kd l i = 7 ∧ kd l j = 7) := fun j hj => by
      have h1 := r4 j hj
      unfold kidOk at h1
      simp only [Bool.not_eq_true', Bool.or_eq_false_iff, decide_eq_false_iff_not] at h1
      exact ⟨h1.1.1.1, h1.1.1.2, h1.1.2, h1.2⟩
    have hhon : ∀ j ∈ kidsOf l (i : Int), kd l j = 7 → kd l i = 5 ∧ (kidsOf l (i : Int)).length = 1 := fun j hj h7 => by
      have hjl := ((kid_iff hw hi).1 hj).2.1
      obtain ⟨h1, h2⟩ := kid_par hw hi hj
      obtain ⟨-, -, q3, -⟩ := h j hjl
      have := q3 h7 h2
      rw [h1] at this
      exact this
    have hnl : ¬ (kd l i = 1 ∨ kd l i = 6) → leafB (kd l i) = false := fun h1 => by
      unfold leafB
      simpa using h1
    refine ⟨?_, ?_, ?_, ?_, ?_, ?_⟩
    · by_cases h5 : kd l i = 5
      · exact .inl h5
      · exact .inr (cntK_zero.2 fun j hj h7 => h5 (hhon j hj h7).1)
    · intro h2
      rw [if_neg (by rw [hnl (by omega)]; simp), if_neg (by omega), if_neg (by omega)] at r1
      exact ⟨r1.1, r1.2, cntK_zero.2 fun j hj h3 => (hkid j hj).2.1 ⟨.inl h2, h3⟩⟩
    · intro h2
      rw [if_neg (by rw [hnl (by omega)]; simp), if_neg (by omega), if_neg (by omega)] at r1
      exact ⟨r1.1, r1.2, cntK_zero.2 fun j hj h3 => (hkid j hj).2.2.1 ⟨h2, h3⟩⟩
    · intro h2
      rw [if_neg (by rw [hnl (by omega)]; simp), if_neg (by omega), if_pos h2] at r1
      refine ⟨r1, (cntK_all.2 fun j hj => ?_).trans r1⟩
      exact Decidable.not_not.1 fun h3 => (hkid j hj).1 ⟨h2, h3⟩
    · intro h2
      rw [if_neg (by rw [hnl (by omega)]; simp), if_pos h2] at r1
      refine ⟨r1.1, r1.2, cntK_zero.2 fun j hj h3 => (hkid j hj).2.1 ⟨.inr (.inl h2), h3⟩, ?_, ?_⟩
      · have := r2 h2
        have := hw.pos i hi
        omega
      · by_cases h7 : cntK l (kidsOf l (i : Int)) 7 = 0
        · exact .inl h7
        · refine .inr ?_
          have : ∃ j, j ∈ kidsOf l (i : Int) ∧ kd l j = 7 := Classical.byContradiction fun hn => h7 (cntK_zero.2 fun j hj h3 => hn ⟨j, hj, h3⟩)
          obtain ⟨j, hj, h3⟩ := this
          exact (hhon j hj h3).2
    · intro h2
      rw [if_neg (by rw [hnl (by omega)]; simp), if_neg (by omega), if_neg (by omega)] at r1
      refine ⟨r1.1, r1.2, cntK_zero.2 fun j hj h3 => (hkid j hj).2.1 ⟨.inr (.inr h2), h3⟩, ?_⟩
      have := hw.pos i hi
      by_cases h4 : 0 < dep l i
      · right
        obtain ⟨p, hp, hpx, hmem, _⟩ := par_kid hw hi h4
        have h5 := (r3 h2 h4).1
        rw [hp] at h5
        rw [parK_eq hw hi h4 hp]
        exact h5
      · left
        omega
end Go.Proofs.YtimblabaeclhpaaGreat
