/- PLAIN LAW of TopCopied: what the variants of a restoration have to do with its changes. -/
import Derived.Test.YtaoddenadfmdbaaResL
import Derived.Test.YtaoddenadfmdbaaEdL
import Derived.Test.YtaoddenadfmdbaaVarW
import Derived.Test.YtaoddenadfmdbaaApplyW
import Derived.Test.YtaoddenadfmdbaaClosL
namespace Go.Proofs.Ytaoddenadfmdbaa
open Go.RowKit
theorem stab_unique : ∀ (L L' : List Va), L.Pairwise (fun x y => x.1 ≤ y.1) → L'.Pairwise (fun x y => x.1 ≤ y.1) → (∀ x : Int, L'.filter (fun t => decide (t.1 = x)) = L.filter (fun t => decide (t.1 = x))) → L' = L
  | [], [], _, _, _ => rfl
  | [], t :: r, _, _, h => by have := h t.1; simp at this
  | t :: r, [], _, _, h => by have := h t.1; simp at this
  | t :: r, u :: s, h1, h2, h => by
    have hle : u.1 ≤ t.1 := by
      have : t ∈ (u :: s).filter (fun x => decide (x.1 = t.1)) := by rw [h]; simp
      rcases List.mem_cons.1 (List.mem_filter.1 this).1 with e | e
      · rw [e]; exact Int.le_refl _
      · exact List.rel_of_pairwise_cons h2 e
    have hge : t.1 ≤ u.1 := by
      have : u ∈ (t :: r).filter (fun x => decide (x.1 = u.1)) := by rw [← h]; simp
      rcases List.mem_cons.1 (List.mem_filter.1 this).1 with e | e
      · rw [e]; exact Int.le_refl _
      · exact List.rel_of_pairwise_cons h1 e
    have hk : u.1 = t.1 := by omega
    have h3 := h t.1
    rw [List.filter_cons_of_pos (by simpa using hk), List.filter_cons_of_pos (by simp)] at h3
    injection h3 with h4 h5
    subst h4
    rw [stab_unique r s h1.of_cons h2.of_cons fun x => ?_]
    by_cases hx : u.1 = x
    · subst hx; exact h5
    · have := h x
      rwa [List.filter_cons_of_neg (by simpa using hx), List.filter_cons_of_neg (by simpa using hx)] at this
theorem StabL.eq {L L' : List Va} (h : StabL L L') (hs : L.Pairwise (fun x y => x.1 ≤ y.1)) : L' = L := stab_unique L L' hs h.2.2 h.2.1
theorem rb_row {w : World} {b n : Nat} {t : TypeId} {f : Nat → Value} {l : List Bool} (h : w.rowIs b t n f) (hl : l.length = n) (hf : ∀ i (hi : i < l.length), f i = .bool l[i]) : Rb w w.heap.size (some ⟨b, 0, none⟩) l := by
  refine ⟨by simp, fun hn => ⟨_, rfl, h.lt, fun j u hu => ?_⟩⟩
  obtain ⟨hj, rfl⟩ := List.getElem?_eq_some_iff.1 hu
  have hj' : j < l.length := by simpa using hj
  rw [Addr.add_lit, Nat.zero_add, h.cell (by omega), hf j hj']
  simp
theorem verr_one (a b : List Int) : vErr a [b] = 0 ↔ linesErr [a, b] = 0 := by
  unfold vErr
  simp only [linesErr, List.length_cons, List.length_nil]
  by_cases h1 : lineErr a = 0 <;> by_cases h2 : lineErr b = 0 <;> simp [h1, h2]
theorem of_sorted (a b : List Int) : (raw a [b] 1).Pairwise (fun x y => x.1 ≤ y.1) := by
  have h := strs_chain a b
  simp only [raw, List.nil_append, ofCopy, List.getD_cons_zero]
  rw [List.pairwise_map]
  exact h.imp fun h => by simp; omega
theorem one_raw (a b : List Int) : raw a [b] 1 = ofCopy a 0 b := rfl
theorem esx {a b : List Int} {es : List En} (h : es.map dec = ofCopy a 0 b) {k : Nat} (hk : k < es.length) (hk2 : k < (strs a b).length) : es[k].1 = ((strs a b)[k].1 : Int) ∧ es[k].2.1 = 0 ∧ es[k].2.2.2 = (strs a b)[k].2.2 := by
  have h1 := congrArg (fun x => x[k]?) h
  simp only [ofCopy, List.getElem?_map, List.getElem?_eq_getElem hk, List.getElem?_eq_getElem hk2, Option.map_some, Option.some.injEq, dec, Prod.mk.injEq] at h1
  exact h1
/-- No more stretches than places. -/
theorem strs_few (a b : List Int) : (strs a b).length ≤ a.length + 1 := by
  have h1 : ((strs a b).map fun x => x.1).Nodup := by
    rw [List.Nodup, List.pairwise_map]
    exact (strs_chain a b).imp fun h => by omega
  have h2 := nodup_len (a.length + 1) _ h1 fun x hx => by
    obtain ⟨y, hy, rfl⟩ := List.mem_map.1 hx
    have := strs_end a b y hy
    omega
  rwa [List.length_map] at h2
/-- How much shorter the stretches make the base. -/
def sumD : List Item → Int
  | [] => 0
  | x :: r => ((x.2.1 : Int) - (x.2.2.length : Int)) + sumD r
theorem putAll_len (a : List Int) : ∀ (l : List Item) (at_ : Nat), at_ ≤ a.length → (∀ x ∈ l, at_ ≤ x.1 ∧ x.1 + x.2.1 ≤ a.length) → l.Pairwise (fun x y => x.1 + x.2.1 < y.1) → ((putAll a l at_ a.length).length : Int) = (a.length : Int) - (at_ : Int) - sumD l
  | [], at_, h, _, _ => by
    rw [putAll, sumD, List.length_take, List.length_drop]
    omega
  | x :: r, at_, h, hx, hp => by
    obtain ⟨h1, h2⟩ := hx x (by simp)
    have hp' := List.pairwise_cons.1 hp
    have ih := putAll_len a r (x.1 + x.2.1) h2 (fun y hy => ⟨by have := hp'.1 y hy; omega, (hx y (by simp [hy])).2⟩) hp'.2
    rw [putAll, sumD, List.length_append, List.length_append, List.length_take, List.length_drop]
    omega
theorem sumD_strs (a b : List Int) : sumD (strs a b) = (a.length : Int) - (b.length : Int) := by
  obtain ⟨s, h1, h2⟩ := strs_wt a b
  have h3 := h2.all
  rw [List.take_length] at h3
  have h4 := putAll_len a (strs a b) 0 (Nat.zero_le _) (fun x hx => ⟨Nat.zero_le _, strs_end a b x hx⟩) (strs_chain a b)
  rw [h1] at h4 ⊢
  rw [h3] at h4
  omega
theorem sumD_snoc (l : List Item) (x : Item) : sumD (l ++ [x]) = sumD l + ((x.2.1 : Int) - (x.2.2.length : Int)) := by
  induction l with
  | nil => simp [sumD]
  | cons y l ih => rw [List.cons_append, sumD, sumD, ih]; omega
theorem sumD_take {l : List Item} {k : Nat} (h : k < l.length) : sumD (l.take (k + 1)) = sumD (l.take k) + ((l[k].2.1 : Int) - (l[k].2.2.length : Int)) := by
  rw [List.take_add_one, List.getElem?_eq_getElem h]
  exact sumD_snoc _ _
theorem sumD_bd {B : Nat} : ∀ (l : List Item), (∀ x ∈ l, x.2.1 ≤ B ∧ x.2.2.length ≤ B) → -((B * l.length : Nat) : Int) ≤ sumD l ∧ sumD l ≤ ((B * l.length : Nat) : Int)
  | [], _ => by simp [sumD]
  | x :: r, h => by
    have ih := sumD_bd r fun y hy => h y (by simp [hy])
    have h1 := h x (by simp)
    have e : B * (x :: r).length = B * r.length + B := by rw [List.length_cons, Nat.mul_succ]
    rw [sumD, e]
    omega
theorem strs_ED (a b : List Int) : (strs a b).length = 0 ↔ ED b a = 0 := by
  rw [List.length_eq_zero_iff, strs_none]
  exact ⟨fun h => by rw [h]; exact ED_self b, fun h => (ED_zero h).symm⟩
theorem line_ok {n : Nat} {l : List Int} (h : ∀ a ∈ l, 0 ≤ a ∧ a < (n : Int)) (hl : l.length ≤ 60) : lineErr l = 0 := by
  unfold lineErr
  rw [if_neg (by omega), if_neg]
  simp only [List.any_eq_true, decide_eq_true_eq, not_exists, not_and]
  intro x hx
  have := (h x hx).1
  omega
theorem lines_ok {a b : List Int} (ha : lineErr a = 0) (hb : lineErr b = 0) : linesErr [a, b] = 0 := by simp [linesErr, ha, hb]
end Go.Proofs.Ytaoddenadfmdbaa
