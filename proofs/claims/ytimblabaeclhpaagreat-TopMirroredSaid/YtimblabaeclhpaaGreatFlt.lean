/- PLAIN LAW: two texts one behind the other: ends, kids, leaves. -/
import Derived.Test.YtimblabaeclhpaaGreatChk
import Derived.Test.YtimblabaeclhpaaGreatOrder
import Derived.Test.YtimblabaeclhpaaGreatTextL
import Derived.Deep.RegionHeld3
import Derived.Deep.Slices
namespace Go.Proofs.YtimblabaeclhpaaGreat
section
variable {x y : List Nd}
theorem dep_l {i : Nat} (h : i < x.length) : dep (x ++ y) i = dep x i := by unfold dep; rw [List.getElem?_append_left h]
theorem dep_r {i : Nat} : dep (x ++ y) (x.length + i) = dep y i := by unfold dep; rw [List.getElem?_append_right (by omega), Nat.add_sub_cancel_left]
theorem kd_l {i : Nat} (h : i < x.length) : kd (x ++ y) i = kd x i := by unfold kd; rw [List.getElem?_append_left h]
theorem kd_r {i : Nat} : kd (x ++ y) (x.length + i) = kd y i := by unfold kd; rw [List.getElem?_append_right (by omega), Nat.add_sub_cancel_left]
theorem nd_l {i : Nat} (h : i < x.length) : nd (x ++ y) i = nd x i := by unfold nd; rw [List.getD_eq_getElem?_getD, List.getD_eq_getElem?_getD, List.getElem?_append_left h]
theorem nd_r {i : Nat} : nd (x ++ y) (x.length + i) = nd y i := by unfold nd; rw [List.getD_eq_getElem?_getD, List.getD_eq_getElem?_getD, List.getElem?_append_right (by omega), Nat.add_sub_cancel_left]
theorem endR_l (hy : dep y 0 = 0) {d : Int} (hd : 0 ≤ d) : ∀ (f k : Nat), k ≤ x.length → x.length ≤ f + k → endR (x ++ y) d f k = endR x d f k
  | 0, k, h1, h2 => rfl
  | f + 1, k, h1, h2 => by
    unfold endR
    by_cases h : k < x.length
    · rw [dep_l h]
      by_cases hc : d < dep x k
      · rw [if_pos ⟨by simp; omega, hc⟩, if_pos ⟨h, hc⟩]
        exact endR_l hy hd f (k + 1) (by omega) (by omega)
      · rw [if_neg (fun h => hc h.2), if_neg (fun h => hc h.2)]
    · obtain rfl : k = x.length := by omega
      have e : dep (x ++ y) x.length = 0 := by have := dep_r (x := x) (y := y) (i := 0); rw [Nat.add_zero] at this; rw [this, hy]
      rw [e, if_neg (fun h => by have := h.2; omega), if_neg (fun h => by have := h.1; omega)]
theorem endR_r {d : Int} : ∀ (f k : Nat), endR (x ++ y) d f (x.length + k) = x.length + endR y d f k
  | 0, k => rfl
  | f + 1, k => by
    unfold endR
    rw [dep_r]
    by_cases hc : k < y.length ∧ d < dep y k
    · rw [if_pos ⟨by simp; omega, hc.2⟩, if_pos hc, Nat.add_assoc]
      exact endR_r f (k + 1)
    · rw [if_neg (fun h => hc ⟨by have := h.1; simp at this; omega, h.2⟩), if_neg hc]
theorem endOf_l (hy : dep y 0 = 0) {i : Nat} (hi : i < x.length) (hd : 0 ≤ dep x i) : endOf (x ++ y) i = endOf x i := by
  unfold endOf
  rw [dep_l hi, endR_l hy hd _ _ (by omega) (by simp; omega), endR_fuel _ x.length _ (by simp; omega) (by omega)]
theorem endOf_r {i : Nat} : endOf (x ++ y) (x.length + i) = x.length + endOf y i := by
  unfold endOf
  rw [dep_r, Nat.add_assoc, endR_r, endR_fuel (l := y) _ y.length _ (by simp; omega) (by omega)]
theorem kidsR_l (hy : dep y 0 = 0) (hx : ∀ i, i < x.length → 0 ≤ dep x i) {t : Nat} (ht : t ≤ x.length) : ∀ (f k : Nat), kidsR (x ++ y) t f k = kidsR x t f k
  | 0, k => rfl
  | f + 1, k => by
    unfold kidsR
    by_cases h : k < t
    · rw [if_pos h, if_pos h, endOf_l hy (by omega) (hx k (by omega)), kidsR_l hy hx ht f]
    · rw [if_neg h, if_neg h]
theorem kidsR_r {t : Nat} : ∀ (f k : Nat), kidsR (x ++ y) (x.length + t) f (x.length + k) = (kidsR y t f k).map (x.length + ·)
  | 0, k => rfl
  | f + 1, k => by
    unfold kidsR
    by_cases h : k < t
    · rw [if_pos (by omega), if_pos h, endOf_r, kidsR_r f, List.map_cons]
    · rw [if_neg (by omega), if_neg h]; rfl
theorem kids_l (hy : dep y 0 = 0) (hx : ∀ i, i < x.length → 0 ≤ dep x i) {i : Nat} (hi : i < x.length) : kidsOf (x ++ y) (i : Int) = kidsOf x (i : Int) := by
  unfold kidsOf kidsTo kidsFr kidsFrom
  rw [if_pos (by omega), if_pos (by omega), if_pos (by omega)]
  simp only [Int.toNat_natCast]
  rw [endOf_l hy hi (hx i hi)]
  exact kidsR_l hy hx (endOf_le hi) _ _
theorem kids_r {i : Nat} : kidsOf (x ++ y) ((x.length + i : Nat) : Int) = (kidsOf y (i : Int)).map (x.length + ·) := by
  unfold kidsOf kidsTo kidsFr kidsFrom
  rw [if_pos (by omega), if_pos (by omega), if_pos (by omega), if_pos (by omega)]
  simp only [Int.toNat_natCast]
  rw [endOf_r, Nat.add_assoc, show x.length + endOf y i - (x.length + (i + 1)) = endOf y i - (i + 1) by omega]
  exact kidsR_r _ _
end
end Go.Proofs.YtimblabaeclhpaaGreat

/- PLAIN LAW: two texts one behind the other are valid if both are. -/
namespace Go.Proofs.YtimblabaeclhpaaGreat
/-- A text is valid but for its size. -/
def Val (ss : List Sg) (l : List Nd) : Prop := (∀ i, i < l.length → ownE ss l i = 0) ∧ ∀ i, i < l.length → famRs l i
theorem val_of {P : Int} {ss : List Sg} {l : List Nd} (h : chkE P ss l = 0) : listE P ss = 0 ∧ l.length ≤ 200 ∧ Val ss l :=
  ⟨(chkE_zero h).1, (chkE_zero h).2.1, firstE_get (chkE_zero h).2.2.1, (chkE_zero h).2.2.2⟩
theorem firstE_of {e : Nat → Int} : ∀ {n : Nat}, (∀ i, i < n → e i = 0) → firstE e n = 0 := by
  intro n h
  induction n with
  | zero => rfl
  | succ n ih => exact firstE_s (ih fun i hi => h i (by omega)) (h n (by omega))
theorem Val.good {ss : List Sg} {l : List Nd} (h : Val ss l) : Good l := good_of (firstE_of h.1)
theorem parR_l {x y : List Nd} {d : Int} : ∀ k, k ≤ x.length → parR (x ++ y) d k = parR x d k
  | 0, _ => rfl
  | k + 1, h => by
    unfold parR
    rw [dep_l (by omega), parR_l k (by omega)]
theorem parR_r {x y : List Nd} {d : Int} : ∀ (k p : Nat), parR y d k = (p : Int) → parR (x ++ y) d (x.length + k) = ((x.length + p : Nat) : Int)
  | 0, p, h => by unfold parR at h; omega
  | k + 1, p, h => by
    unfold parR at h
    rw [← Nat.add_assoc]
    unfold parR
    rw [dep_r]
    by_cases hc : dep y k < d
    · rw [if_pos hc] at h ⊢
      have : k = p := by omega
      rw [this]
    · rw [if_neg hc] at h ⊢
      exact parR_r k p h
theorem ndE_most {N : Nat} {ev : Bool} {m : Int} {n : Nd} (hd : n.depth = 0) (hm : 0 ≤ m) : ndE N ev m n = ndE N ev 0 n := by
  unfold ndE
  have e : (n.depth < 0 ∨ 4 < n.depth ∨ m < n.depth) ↔ (n.depth < 0 ∨ 4 < n.depth ∨ 0 < n.depth) := by omega
  simp only [e]
theorem own_l {ss : List Sg} {x y : List Nd} {i : Nat} (h : i < x.length) : ownE ss (x ++ y) i = ownE ss x i := by
  have e : mostOf (x ++ y) i = mostOf x i := by
    unfold mostOf
    by_cases h0 : i = 0
    · rw [if_pos h0, if_pos h0]
    · rw [if_neg h0, if_neg h0, kd_l (by omega), dep_l (by omega)]
  unfold ownE
  rw [nd_l h, e]
theorem own_r {ss : List Sg} {x y : List Nd} (hx : ∀ i, i < x.length → 0 ≤ dep x i) (hy : dep y 0 = 0) {i : Nat} (h : i < y.length) : ownE ss (x ++ y) (x.length + i) = ownE ss y i := by
  unfold ownE
  rw [nd_r]
  by_cases h0 : i = 0
  · subst h0
    have hd : (nd y 0).depth = 0 := by rw [nd_at h, ← dep_at h]; exact hy
    have hm : 0 ≤ mostOf (x ++ y) (x.length + 0) := by
      unfold mostOf
      by_cases hx0 : x.length + 0 = 0
      · rw [if_pos hx0]; exact Int.le_refl _
      · rw [if_neg hx0, dep_l (by omega)]
        have := hx (x.length + 0 - 1) (by omega)
        split <;> omega
    rw [ndE_most hd hm]
    rfl
  · have e : mostOf (x ++ y) (x.length + i) = mostOf y i := by
      unfold mostOf
      rw [if_neg (by omega), if_neg h0, show x.length + i - 1 = x.length + (i - 1) by omega, kd_r, dep_r]
    rw [e]
theorem fam_l {x y : List Nd} (hw : WfN x) (hy : dep y 0 = 0) {i : Nat} (h : i < x.length) : famRs (x ++ y) i ↔ famRs x i := by
  unfold famRs famR
  rw [kd_l h, dep_l h, kids_l hy hw.pos h]
  have hk : (∀ j ∈ kidsOf x (i : Int), kidOk (kd x i) (kd (x ++ y) j) = true) ↔ (∀ j ∈ kidsOf x (i : Int), kidOk (kd x i) (kd x j) = true) := by
    have e : ∀ j ∈ kidsOf x (i : Int), kd (x ++ y) j = kd x j := fun j hj => kd_l (by have := kidsOf_mem (l := x) (node := (i : Int)) (by omega) (by omega) hj; omega)
    exact ⟨fun h2 j hj => by rw [← e j hj]; exact h2 j hj, fun h2 j hj => by rw [e j hj]; exact h2 j hj⟩
  have hp : (kd x i = 7 → 0 < dep x i → kd (x ++ y) (parOf (x ++ y) i).toNat = 5 ∧ (kidsOf (x ++ y) (parOf (x ++ y) i)).length = 1) ↔ (kd x i = 7 → 0 < dep x i → kd x (parOf x i).toNat = 5 ∧ (kidsOf x (parOf x i)).length = 1) := by
    by_cases hd : 0 < dep x i
    · obtain ⟨p, hp, hpi, _, _⟩ := par_kid hw h hd
      have e : parOf (x ++ y) i = (p : Int) := by
        have : parOf (x ++ y) i = parOf x i := by unfold parOf; rw [dep_l h, parR_l i (by omega)]
        rw [this, hp]
      rw [e, hp, Int.toNat_natCast, kd_l (by omega), kids_l hy hw.pos (by omega)]
    · exact ⟨fun _ _ h2 => absurd h2 hd, fun _ _ h2 => absurd h2 hd⟩
  rw [hk, hp]
theorem fam_r {x y : List Nd} (hw : WfN y) {i : Nat} (h : i < y.length) : famRs (x ++ y) (x.length + i) ↔ famRs y i := by
  unfold famRs famR
  rw [kd_r, dep_r, kids_r, List.length_map]
  have hk : (∀ j ∈ (kidsOf y (i : Int)).map (x.length + ·), kidOk (kd y i) (kd (x ++ y) j) = true) ↔ (∀ j ∈ kidsOf y (i : Int), kidOk (kd y i) (kd y j) = true) := by
    constructor
    · intro h2 j hj
      have := h2 _ (List.mem_map_of_mem hj)
      rwa [kd_r] at this
    · intro h2 j hj
      obtain ⟨k, hk, rfl⟩ := List.mem_map.1 hj
      rw [kd_r]
      exact h2 k hk
  have hp : (kd y i = 7 → 0 < dep y i → kd (x ++ y) (parOf (x ++ y) (x.length + i)).toNat = 5 ∧ (kidsOf (x ++ y) (parOf (x ++ y) (x.length + i))).length = 1) ↔ (kd y i = 7 → 0 < dep y i → kd y (parOf y i).toNat = 5 ∧ (kidsOf y (parOf y i)).length = 1) := by
    by_cases hd : 0 < dep y i
    · obtain ⟨p, hp, hpi, _, _⟩ := par_kid hw h hd
      have e : parOf (x ++ y) (x.length + i) = ((x.length + p : Nat) : Int) := by
        unfold parOf
        rw [dep_r]
        exact parR_r i p hp
      rw [e, hp, Int.toNat_natCast, Int.toNat_natCast, kd_r, kids_r, List.length_map]
    · exact ⟨fun _ _ h2 => absurd h2 hd, fun _ _ h2 => absurd h2 hd⟩
  rw [hk, hp]
theorem Val.cat {ss : List Sg} {x y : List Nd} (hx : Val ss x) (hy : Val ss y) : Val ss (x ++ y) := by
  have gx := hx.good; have gy := hy.good
  refine ⟨fun i hi => ?_, fun i hi => ?_⟩
  · by_cases h : i < x.length
    · rw [own_l h]; exact hx.1 i h
    · obtain ⟨k, rfl⟩ : ∃ k, i = x.length + k := ⟨i - x.length, by omega⟩
      rw [own_r gx.wf.pos gy.wf.first (by simp at hi; omega)]
      exact hy.1 k (by simp at hi; omega)
  · by_cases h : i < x.length
    · exact (fam_l gx.wf gy.wf.first h).2 (hx.2 i h)
    · obtain ⟨k, rfl⟩ : ∃ k, i = x.length + k := ⟨i - x.length, by omega⟩
      exact (fam_r gy.wf (by simp at hi; omega)).2 (hy.2 k (by simp at hi; omega))
theorem Val.split {ss : List Sg} {x y : List Nd} (h : Val ss (x ++ y)) (hy : dep y 0 = 0) : Val ss x ∧ Val ss y := by
  have hox : ∀ i, i < x.length → ownE ss x i = 0 := fun i hi => by rw [← own_l (y := y) hi]; exact h.1 i (by simp; omega)
  have gx : Good x := good_of (firstE_of hox)
  have hoy : ∀ i, i < y.length → ownE ss y i = 0 := fun i hi => by rw [← own_r gx.wf.pos hy hi]; exact h.1 _ (by simp; omega)
  have gy : Good y := good_of (firstE_of hoy)
  exact ⟨⟨hox, fun i hi => (fam_l gx.wf hy hi).1 (h.2 i (by simp; omega))⟩, ⟨hoy, fun i hi => (fam_r gy.wf hi).1 (h.2 _ (by simp; omega))⟩⟩
end Go.Proofs.YtimblabaeclhpaaGreat

/- PLAIN LAW: a stretch of groups of a valid text is a valid text; put back, it gives the text again. -/
namespace Go.Proofs.YtimblabaeclhpaaGreat
def strG (l : List Nd) (a b : Nat) : List Nd := (l.take (posG l b)).drop (posG l a)
theorem dep_drop (l : List Nd) (k i : Nat) : dep (l.drop k) i = dep l (k + i) := by unfold dep; rw [List.getElem?_drop]
theorem dep_pos {l : List Nd} (hw : WfN l) {b : Nat} (hb : b ≤ (kidsOf l (-1)).length) : dep l (posG l b) = 0 := by
  rcases Nat.eq_or_lt_of_le hb with rfl | h
  · rw [posG_end]; unfold dep; rw [List.getElem?_eq_none (Nat.le_refl _)]
  · rw [posG_at h]
    have hm := List.getElem_mem h
    generalize (kidsOf l (-1))[b] = x at hm
    rw [← rkids_eq hw (by omega) (by omega)] at hm
    unfold rkids rkFrom at hm
    rw [if_neg (by omega)] at hm
    exact (rk_mem _ _ _ hm).2.2.1
theorem cut_take {l : List Nd} {a b : Nat} (h : a ≤ b) : l.take b = l.take a ++ (l.take b).drop a := by
  have e := List.take_append_drop a (l.take b)
  rw [List.take_take, Nat.min_eq_left h] at e
  exact e.symm
theorem Val.take {ss : List Sg} {l : List Nd} (h : Val ss l) {b : Nat} (hb : b ≤ (kidsOf l (-1)).length) : Val ss (l.take (posG l b)) ∧ Val ss (l.drop (posG l b)) := by
  have e : l.take (posG l b) ++ l.drop (posG l b) = l := List.take_append_drop _ _
  rw [← e] at h
  refine h.split ?_
  rw [dep_drop, Nat.add_zero]
  rw [e] at h
  exact dep_pos h.good.wf hb
theorem Val.str {ss : List Sg} {l : List Nd} (h : Val ss l) {a b : Nat} (hab : a ≤ b) (hb : b ≤ (kidsOf l (-1)).length) : Val ss (strG l a b) := by
  have hm := posG_mono' (l := l) hab hb
  have h1 := (h.take hb).1
  rw [cut_take hm] at h1
  refine (h1.split ?_).2
  rcases Nat.eq_or_lt_of_le hm with he | hlt
  · rw [← he, List.drop_eq_nil_of_le (by simp; omega)]
    rfl
  · rw [dep_drop, Nat.add_zero]
    have e : dep (l.take (posG l b)) (posG l a) = dep l (posG l a) := by unfold dep; rw [List.getElem?_take, if_pos hlt]
    rw [e]
    exact dep_pos h.good.wf (by omega)
end Go.Proofs.YtimblabaeclhpaaGreat

/- PLAIN LAW: group by group; Plain, Mirror of a valid text are valid, and change nothing the second time. -/
namespace Go.Proofs.YtimblabaeclhpaaGreat
/-- One group. -/
structure One (y : List Nd) : Prop where
  ne : 0 < y.length
  first : dep y 0 = 0
  below : ∀ i, 0 < i → i < y.length → 0 < dep y i
theorem str_one {l : List Nd} (hw : WfN l) {k : Nat} (h : k < (kidsOf l (-1)).length) : One (strG l k (k + 1)) := by
  have h1 := posG_s h
  have h2 := endOf_gt l (posG l k)
  have h3 := posG_le (l := l) (i := k + 1) (by omega)
  have h4 := posG_lt h
  have hlen : (strG l k (k + 1)).length = posG l (k + 1) - posG l k := by unfold strG; simp; omega
  have hdep : ∀ j, j < posG l (k + 1) - posG l k → dep (strG l k (k + 1)) j = dep l (posG l k + j) := fun j hj => by
    unfold strG
    rw [dep_drop]
    unfold dep
    rw [List.getElem?_take, if_pos (by omega)]
  have hd0 := dep_pos hw (b := k) (by omega)
  refine ⟨by omega, ?_, fun i hi hil => ?_⟩
  · rw [hdep 0 (by omega)]; exact hd0
  · rw [hdep i (by omega)]
    have : dep l (posG l k) < dep l (posG l k + i) := endR_low (l := l) (d := dep l (posG l k)) l.length (posG l k + 1) (posG l k + i) (by omega) (by show _ < endOf l (posG l k); omega)
    omega
/-- Group by group. -/
theorem Val.groups {ss : List Sg} {M : List Nd → Prop} (h0 : M []) (hs : ∀ x y, Val ss x → Val ss y → One y → M x → M (x ++ y)) {l : List Nd} (h : Val ss l) : M l := by
  have hk : ∀ k, k ≤ (kidsOf l (-1)).length → M (l.take (posG l k)) := by
    intro k
    induction k with
    | zero => intro _; rw [posG_0]; exact h0
    | succ k ih =>
      intro hk
      have hm := posG_mono' (l := l) (i := k) (j := k + 1) (by omega) hk
      rw [cut_take hm]
      exact hs _ _ (h.take (by omega)).1 (h.str (a := k) (b := k + 1) (by omega) hk) (str_one h.good.wf hk) (ih (by omega))
  have := hk _ (Nat.le_refl _)
  rwa [posG_end, List.take_length] at this
theorem ndE_dep {N : Nat} {ev : Bool} {m m' d : Int} {n : Nd} (h : ndE N ev m n = 0) (h1 : 0 ≤ d) (h2 : d ≤ 4) (h3 : d ≤ m') : ndE N ev m' { n with depth := d } = 0 := by
  have hz := ndE_zero h
  unfold ndE at h ⊢
  rw [if_neg (by omega), if_neg (by omega)] at h
  simp only []
  rw [if_neg (by omega), if_neg (by omega)]
  exact h
/-- An Honour becomes another node that is no leaf. -/
theorem ndE_kind {N : Nat} {ev : Bool} {m k : Int} {n : Nd} (h : ndE N ev m n = 0) (h1 : n.kind = 7) (hk : k = 2 ∨ k = 5) : ndE N ev m { n with kind := k } = 0 := by
  have hz := ndE_zero h
  unfold ndE at h ⊢
  rw [if_neg (by omega), if_neg (by omega), if_neg (by omega), if_neg (by omega)] at h
  simp only []
  rw [if_neg (by omega), if_neg (by omega), if_neg (by omega), if_neg (by omega)]
  exact h
theorem endR_dep {l m : List Nd} (hl : l.length = m.length) (hd : dep l = dep m) (d : Int) : ∀ f k, endR l d f k = endR m d f k
  | 0, _ => rfl
  | f + 1, k => by unfold endR; rw [hl, hd, endR_dep hl hd d f]
theorem endOf_dep {l m : List Nd} (hl : l.length = m.length) (hd : dep l = dep m) (i : Nat) : endOf l i = endOf m i := by
  unfold endOf
  rw [endR_dep hl hd, hl, hd]
theorem kidsR_dep {l m : List Nd} (hl : l.length = m.length) (hd : dep l = dep m) (e : Nat) : ∀ f k, kidsR l e f k = kidsR m e f k
  | 0, _ => rfl
  | f + 1, k => by unfold kidsR; rw [endOf_dep hl hd, kidsR_dep hl hd e f]
theorem kidsOf_dep {l m : List Nd} (hl : l.length = m.length) (hd : dep l = dep m) (node : Int) : kidsOf l node = kidsOf m node := by
  unfold kidsOf kidsFrom kidsTo
  rw [kidsR_dep hl hd, endOf_dep hl hd, hl]
theorem parR_dep {l m : List Nd} (hd : dep l = dep m) (d : Int) : ∀ k, parR l d k = parR m d k
  | 0 => rfl
  | k + 1 => by unfold parR; rw [hd, parR_dep hd d k]
theorem parOf_dep {l m : List Nd} (hd : dep l = dep m) (i : Nat) : parOf l i = parOf m i := by
  unfold parOf
  rw [parR_dep hd, hd]
/-- An Honour of a valid text that is no group is the only kid of a ring, which is a group. -/
theorem hon_in {ss : List Sg} {l : List Nd} (h : Val ss l) {i : Nat} (hi : i < l.length) (hk : kd l i = 7) (hd : dep l i ≠ 0) : ∃ p : Nat, p < i ∧ kd l p = 5 ∧ dep l p = 0 ∧ i ∈ kidsOf l (p : Int) ∧ (kidsOf l (p : Int)).length = 1 ∧ dep l i = 1 := by
  have hg := h.good
  have hp := hg.wf.pos i hi
  obtain ⟨p, hpo, hpi, hm, hdp⟩ := par_kid hg.wf hi (by omega)
  have h5 := (h.2 i hi).2.2.1 hk (by omega)
  rw [hpo, Int.toNat_natCast] at h5
  have h6 := (h.2 p (by omega)).2.1 h5.1
  have := hg.wf.pos p (by omega)
  exact ⟨p, hpi, h5.1, by omega, hm, h5.2, by omega⟩
theorem kid_swap {q : Int} (h : kidOk 7 q = true) (h7 : q ≠ 7) : kidOk 2 q = true ∧ kidOk 5 q = true := by
  have h2 : q ≠ 2 := fun e => by subst e; exact absurd h (by decide)
  unfold kidOk
  constructor <;> simp <;> omega
/-- The head of a group that is an Honour becomes a Beside or a Ring. -/
theorem Val.swap {ss : List Sg} {h r : Nd} {t : List Nd} (hv : Val ss (h :: t)) (ho : One (h :: t)) (h7 : h.kind = 7) (hr : r.kind = 2 ∨ r.kind = 5) (hr0 : r.depth = 0) (hro : ndE ss.length (evenOf ss r.sign) 0 r = 0) : Val ss (r :: t) := by
  have hh0 : h.depth = 0 := by have := ho.first; rwa [dep_at ho.ne] at this
  have hd : dep (r :: t) = dep (h :: t) := by
    funext i
    cases i with
    | zero => show r.depth = h.depth; omega
    | succ i => rfl
  have hl : (r :: t).length = (h :: t).length := rfl
  have hks : ∀ i, kd (r :: t) (i + 1) = kd (h :: t) (i + 1) := fun i => rfl
  have hk0 : kd (r :: t) 0 = r.kind := rfl
  have hk0' : kd (h :: t) 0 = 7 := h7
  have hno : ∀ i, i + 1 < (h :: t).length → kd (h :: t) (i + 1) ≠ 7 := fun i hi hk => by
    obtain ⟨p, hp, hp5, hp0, _⟩ := hon_in hv hi hk (by have := ho.below (i + 1) (by omega) hi; omega)
    have : p = 0 := by
      rcases Nat.eq_zero_or_pos p with e | e
      · exact e
      · have := ho.below p e (by omega); omega
    subst this
    omega
  have hmost : ∀ i, mostOf (r :: t) i = mostOf (h :: t) i := fun i => by
    unfold mostOf
    by_cases h0 : i = 0
    · rw [if_pos h0, if_pos h0]
    · rw [if_neg h0, if_neg h0, hd]
      obtain ⟨j, rfl⟩ : ∃ j, i = j + 1 := ⟨i - 1, by omega⟩
      rw [Nat.add_sub_cancel]
      cases j with
      | zero =>
        rw [hk0, hk0']
        have e1 : leafB r.kind = false := by unfold leafB; simp; omega
        have e2 : leafB 7 = false := rfl
        rw [e1, e2]
      | succ j => rw [hks]
  refine ⟨fun i hi => ?_, fun i hi => ?_⟩
  · cases i with
    | zero => exact hro
    | succ i =>
      have := hv.1 (i + 1) hi
      unfold ownE at this ⊢
      rw [hmost]
      exact this
  · have hf := hv.2 i hi
    unfold famRs famR at hf ⊢
    rw [kidsOf_dep hl hd, kidsOf_dep hl hd, parOf_dep hd, hd]
    have hkid : ∀ j ∈ kidsOf (h :: t) (i : Int), kd (r :: t) j = kd (h :: t) j ∧ kd (h :: t) j ≠ 7 := fun j hj => by
      have hm := kidsOf_mem (l := h :: t) (node := (i : Int)) (by omega) (by have : i < (h :: t).length := hi; omega) hj
      obtain ⟨q, rfl⟩ : ∃ q, j = q + 1 := ⟨j - 1, by omega⟩
      exact ⟨hks q, hno q hm.2⟩
    cases i with
    | zero =>
      rw [hk0'] at hf
      rw [hk0]
      obtain ⟨f1, f2, f3, f4⟩ := hf
      have e2 : leafB 7 = false := rfl
      rw [e2, if_neg (by simp), if_neg (by decide), if_neg (by decide)] at f1
      refine ⟨?_, fun _ => ?_, fun h _ => ?_, fun j hj => ?_⟩
      · have e1 : leafB r.kind = false := by unfold leafB; simp; omega
        rw [e1, if_neg (by decide)]
        rcases hr with e | e
        · rw [e, if_neg (by decide), if_neg (by decide)]; exact f1
        · rw [e, if_pos rfl]; omega
      · rw [ho.first]; exact Int.le_refl _
      · omega
      · have a := f4 j hj
        obtain ⟨b, c⟩ := hkid j hj
        rw [b]
        rcases hr with e | e
        · rw [e]; exact (kid_swap a c).1
        · rw [e]; exact (kid_swap a c).2
    | succ i =>
      rw [hks]
      obtain ⟨f1, f2, f3, f4⟩ := hf
      exact ⟨f1, f2, fun h => absurd h (hno i hi), fun j hj => by rw [(hkid j hj).1]; exact f4 j hj⟩
/-- Behind the head of a group, one less deep. -/
theorem Val.low {ss : List Sg} {r : Nd} {t : List Nd} (hv : Val ss (r :: t)) (ho : One (r :: t)) (h1 : kidsOf (r :: t) 0 = [1]) : Val ss (t.map (subN 1)) ∧ One (t.map (subN 1)) := by
  have hg := hv.good
  have ht : 0 < t.length := by
    have := (kidsOf_mem (l := r :: t) (node := 0) (by omega) (by simp) (x := 1) (by rw [h1]; simp)).2
    simpa using this
  have hzl : (t.map (subN 1)).length = t.length := List.length_map ..
  have hdep : ∀ i, i < t.length → dep (t.map (subN 1)) i = dep (r :: t) (i + 1) - 1 := fun i hi => by
    rw [dep_at (by omega), dep_at (by simpa using hi)]
    simp [subN]
  have hkd : ∀ i, kd (t.map (subN 1)) i = kd (r :: t) (i + 1) := fun i => by
    unfold kd
    rw [List.getElem?_map, List.getElem?_cons_succ]
    cases t[i]? <;> rfl
  have hend : ∀ (d : Int) (f k : Nat), endR (r :: t) (d + 1) f (k + 1) = endR (t.map (subN 1)) d f k + 1 := by
    intro d f
    induction f with
    | zero => intro k; rfl
    | succ f ih =>
      intro k
      unfold endR
      by_cases hk : k < t.length
      · rw [hdep k hk, hzl, List.length_cons]
        by_cases hc : d < dep (r :: t) (k + 1) - 1
        · rw [if_pos ⟨by omega, by omega⟩, if_pos ⟨hk, hc⟩, ih]
        · rw [if_neg (fun h => hc (by have := h.2; omega)), if_neg (fun h => hc h.2)]
      · rw [if_neg (fun h => hk (by have := h.1; simp at this; omega)), if_neg (fun h => hk (by have := h.1; rw [hzl] at this; exact this))]
  have hendO : ∀ i, i < t.length → endOf (r :: t) (i + 1) = endOf (t.map (subN 1)) i + 1 := fun i hi => by
    unfold endOf
    have e := hdep i hi
    rw [show dep (r :: t) (i + 1) = dep (t.map (subN 1)) i + 1 by omega, hend]
    rw [endR_fuel (l := t.map (subN 1)) (r :: t).length (t.map (subN 1)).length (i + 1) (by simp; omega) (by omega)]
  have hkR : ∀ (e : Nat), e ≤ t.length → ∀ f k, kidsR (r :: t) (e + 1) f (k + 1) = (kidsR (t.map (subN 1)) e f k).map (· + 1) := by
    intro e he f
    induction f with
    | zero => intro k; rfl
    | succ f ih =>
      intro k
      unfold kidsR
      by_cases hk : k < e
      · rw [if_pos (by omega), if_pos hk, hendO k (by omega), ih, List.map_cons]
      · rw [if_neg (by omega), if_neg hk]; rfl
  have hkids : ∀ i, i < t.length → kidsOf (r :: t) ((i + 1 : Nat) : Int) = (kidsOf (t.map (subN 1)) (i : Int)).map (· + 1) := fun i hi => by
    unfold kidsOf kidsTo kidsFr kidsFrom
    rw [if_pos (by omega), if_pos (by omega), if_pos (by omega), if_pos (by omega)]
    simp only [Int.toNat_natCast]
    rw [hendO i hi, show endOf (t.map (subN 1)) i + 1 - (i + 1 + 1) = endOf (t.map (subN 1)) i - (i + 1) by omega]
    exact hkR _ (by have := endOf_le (l := t.map (subN 1)) (i := i) (by omega); omega) _ _
  have hd1 : dep (r :: t) 1 = 1 := by
    have := ((kid_iff hg.wf (i := 0) (x := 1) (by simp)).1 (by rw [show ((0 : Nat) : Int) = 0 from rfl, h1]; simp)).2.2.1
    rw [ho.first] at this
    omega
  have hd2 : ∀ i, 0 < i → i < t.length → 2 ≤ dep (r :: t) (i + 1) := fun i h0 hi => by
    have hb := ho.below (i + 1) (by omega) (by simp; omega)
    rcases Int.lt_or_le (dep (r :: t) (i + 1)) 2 with hlt | hge
    · exfalso
      have hm : i + 1 ∈ kidsOf (r :: t) ((0 : Nat) : Int) := (kid_iff hg.wf (by simp)).2 ⟨by omega, by simp; omega, by rw [ho.first]; omega, fun j hj1 hj2 => by rw [ho.first]; exact ho.below j hj1 (by simp; omega)⟩
      rw [show ((0 : Nat) : Int) = 0 from rfl, h1] at hm
      simp at hm
      omega
    · exact hge
  refine ⟨⟨fun i hi => ?_, fun i hi => ?_⟩, ⟨by omega, by rw [hdep 0 ht]; show dep (r :: t) 1 - 1 = 0; omega, fun i h0 hi => by rw [hdep i (by omega)]; have := hd2 i h0 (by omega); omega⟩⟩
  · rw [hzl] at hi
    have h2 := hv.1 (i + 1) (by simp; omega)
    have h3 := hg.deps (i + 1) (by simp; omega)
    unfold ownE at h2 ⊢
    have e : nd (t.map (subN 1)) i = { nd (r :: t) (i + 1) with depth := dep (r :: t) (i + 1) - 1 } := by
      rw [nd_at (by omega), nd_at (by simpa using hi), dep_at (by simpa using hi)]
      simp [subN]
    have hb := ho.below (i + 1) (by omega) (by simp; omega)
    rw [e]
    refine ndE_dep h2 (by omega) (by omega) ?_
    cases i with
    | zero => unfold mostOf; rw [if_pos rfl]; show dep (r :: t) 1 - 1 ≤ 0; omega
    | succ i =>
      have hm := (own_zero (by simp; omega) (hv.1 (i + 1 + 1) (by simp; omega))).2.2
      unfold mostOf at hm ⊢
      rw [if_neg (by omega), Nat.add_sub_cancel] at hm ⊢
      rw [hkd, hdep i (by omega)]
      split at hm
      · rename_i hc; rw [if_pos hc]; omega
      · rename_i hc; rw [if_neg hc]; omega
  · rw [hzl] at hi
    have hf := hv.2 (i + 1) (by simp; omega)
    obtain ⟨f1, f2, f3, f4⟩ := hf
    have hb := ho.below (i + 1) (by omega) (by simp; omega)
    rw [hkids i hi] at f1 f4
    rw [List.length_map] at f1
    refine ⟨by rw [hkd]; exact f1, fun h => ?_, fun h h0 => ?_, fun j hj => ?_⟩
    · rw [hkd] at h; have := f2 h; omega
    · rw [hkd] at h
      rw [hdep i hi] at h0
      obtain ⟨_, _, _, _, _, _, hx⟩ := hon_in hv (i := i + 1) (by simp; omega) h (by omega)
      omega
    · rw [hkd, hkd]
      exact f4 _ (List.mem_map_of_mem hj)
/-- No Honour, or groups alone: Plain changes kinds alone. -/
theorem plR_top {l : List Nd} (h : ∀ i, i < l.length → kd l i = 7 → dep l i = 0) : ∀ k, k ≤ l.length → inH l k = false ∧ plR l k = (l.take k).map (lowN false)
  | 0, _ => ⟨rfl, rfl⟩
  | k + 1, hk => by
    obtain ⟨i1, i2⟩ := plR_top h k (by omega)
    have hH : inH l (k + 1) = false := by
      unfold inH
      split
      · rfl
      · rename_i h0
        rw [if_neg (fun h7 => h0 (h k (by omega) h7))]
        exact i1
    refine ⟨hH, ?_⟩
    unfold plR
    rw [if_neg (fun hc => hc.1 (h k (by omega) hc.2)), hH, i2, List.take_add_one, List.getElem?_eq_getElem (by omega), Option.toList_some, List.map_append, nd_at (by omega)]
    rfl
theorem lowN_id {n : Nd} (h : n.kind ≠ 7) : lowN false n = n := by
  unfold lowN
  rw [if_neg h]
  simp
theorem plR_id {l : List Nd} (h : ∀ i, i < l.length → kd l i ≠ 7) : plR l l.length = l := by
  rw [(plR_top (fun i hi h7 => absurd h7 (h i hi)) _ (Nat.le_refl _)).2, List.take_length]
  refine (List.map_congr_left fun n hn => ?_).trans (List.map_id l)
  obtain ⟨i, hi, rfl⟩ := List.getElem_of_mem hn
  exact lowN_id (by have := h i hi; rwa [kd_at hi] at this)
theorem plR_no7 {l : List Nd} : ∀ k, ∀ n ∈ plR l k, n.kind ≠ 7
  | 0, _, h => by simp [plR] at h
  | k + 1, n, h => by
    unfold plR at h
    split at h
    · exact plR_no7 k n h
    · rcases List.mem_append.1 h with h | h
      · exact plR_no7 k n h
      · simp only [List.mem_cons, List.not_mem_nil, or_false] at h
        subst h
        unfold lowN
        simp only []
        split <;> omega
theorem inH_l {x y : List Nd} : ∀ k, k ≤ x.length → inH (x ++ y) k = inH x k
  | 0, _ => rfl
  | k + 1, h => by unfold inH; rw [dep_l (by omega), kd_l (by omega), inH_l k (by omega)]
theorem plR_l {x y : List Nd} : ∀ k, k ≤ x.length → plR (x ++ y) k = plR x k
  | 0, _ => rfl
  | k + 1, h => by unfold plR; rw [dep_l (by omega), kd_l (by omega), nd_l (by omega), inH_l (k + 1) h, plR_l k (by omega)]
theorem inH_r {x y : List Nd} (hy : dep y 0 = 0) : ∀ k, inH (x ++ y) (x.length + (k + 1)) = inH y (k + 1)
  | 0 => by
    show inH (x ++ y) (x.length + 1) = _
    unfold inH
    have := dep_r (x := x) (y := y) (i := 0)
    rw [Nat.add_zero] at this
    rw [this, hy, if_pos rfl, if_pos rfl]
  | k + 1 => by
    show inH (x ++ y) (x.length + (k + 1) + 1) = _
    unfold inH
    rw [dep_r, kd_r, inH_r hy k]
theorem plR_r {x y : List Nd} (hy : dep y 0 = 0) : ∀ k, plR (x ++ y) (x.length + k) = plR x x.length ++ plR y k
  | 0 => by rw [Nat.add_zero, plR_l _ (Nat.le_refl _)]; simp [plR]
  | k + 1 => by
    have e := inH_r (x := x) hy k
    have e1 : plR (x ++ y) (x.length + k + 1) = if dep y k ≠ 0 ∧ kd y k = 7 then plR (x ++ y) (x.length + k) else plR (x ++ y) (x.length + k) ++ [lowN (inH y (k + 1)) (nd y k)] := by
      rw [plR, dep_r, kd_r, nd_r, show x.length + k + 1 = x.length + (k + 1) from rfl, e]
    have e2 : plR y (k + 1) = if dep y k ≠ 0 ∧ kd y k = 7 then plR y k else plR y k ++ [lowN (inH y (k + 1)) (nd y k)] := rfl
    show plR (x ++ y) (x.length + k + 1) = _
    rw [e1, e2, plR_r hy k]
    split
    · rfl
    · rw [List.append_assoc]
theorem plR_cat {x y : List Nd} (hy : dep y 0 = 0) : plR (x ++ y) (x ++ y).length = plR x x.length ++ plR y y.length := by
  rw [List.length_append]
  exact plR_r hy _
theorem low_map {t : List Nd} (h : ∀ n ∈ t, n.kind ≠ 7) : t.map (lowN true) = t.map (subN 1) := List.map_congr_left fun n hn => by
  unfold lowN subN
  rw [if_neg (h n hn)]
  simp
/-- Plain of a ring around an Honour. -/
theorem plR_ring {r h : Nd} {t : List Nd} (hr : r.depth = 0) (hr5 : r.kind ≠ 7) (hh : h.kind = 7) (hh0 : h.depth ≠ 0) (ht : ∀ i, i < t.length → dep (r :: h :: t) (i + 2) ≠ 0 ∧ kd (r :: h :: t) (i + 2) ≠ 7) :
    ∀ k, k ≤ t.length → inH (r :: h :: t) (k + 2) = true ∧ plR (r :: h :: t) (k + 2) = r :: (t.take k).map (lowN true)
  | 0, _ => by
    have e1 : dep (r :: h :: t) 1 = h.depth := rfl
    have e2 : kd (r :: h :: t) 1 = h.kind := rfl
    have e3 : dep (r :: h :: t) 0 = r.depth := rfl
    have e4 : kd (r :: h :: t) 0 = r.kind := rfl
    constructor
    · show inH (r :: h :: t) (1 + 1) = true
      unfold inH
      rw [e1, e2, if_neg hh0, if_pos hh]
    · show plR (r :: h :: t) (1 + 1) = _
      unfold plR
      rw [e1, e2, if_pos ⟨hh0, hh⟩]
      show plR (r :: h :: t) (0 + 1) = _
      unfold plR
      rw [e3, e4, if_neg (fun hc => hc.1 hr)]
      have e5 : inH (r :: h :: t) (0 + 1) = false := by unfold inH; rw [e3, if_pos hr]
      rw [e5]
      show [] ++ [lowN false r] = _
      rw [lowN_id hr5]
      rfl
  | k + 1, hk => by
    obtain ⟨i1, i2⟩ := plR_ring hr hr5 hh hh0 ht k (by omega)
    obtain ⟨t1, t2⟩ := ht k (by omega)
    have hH : inH (r :: h :: t) (k + 2 + 1) = true := by
      unfold inH
      rw [if_neg t1, if_neg t2]
      exact i1
    refine ⟨hH, ?_⟩
    show plR (r :: h :: t) (k + 2 + 1) = _
    unfold plR
    rw [if_neg (fun hc => t2 hc.2), hH, i2, List.take_add_one, List.getElem?_eq_getElem (by omega), Option.toList_some, List.map_append, List.cons_append, nd_at (by simp; omega)]
    rfl
theorem nd_mem {l : List Nd} {n : Nd} {P : Nd → Prop} (hn : n ∈ l) (h : ∀ i (hi : i < l.length), P l[i]) : P n := by
  obtain ⟨i, hi, rfl⟩ := List.getElem_of_mem hn
  exact h i hi
/-- Plain of one group is valid. -/
theorem Val.plain1 {ss : List Sg} {y : List Nd} (hv : Val ss y) (ho : One y) : Val ss (plR y y.length) := by
  have hg := hv.good
  cases y with
  | nil => exact absurd ho.ne (by simp)
  | cons r t =>
    have hr0 : r.depth = 0 := by have := ho.first; rwa [dep_at ho.ne] at this
    have hown0 := hv.1 0 ho.ne
    unfold ownE at hown0
    have e0 : nd (r :: t) 0 = r := rfl
    have m0 : mostOf (r :: t) 0 = 0 := rfl
    rw [e0, m0] at hown0
    -- an Honour below is node 1, and the head a ring
    have hin : ∀ i, 0 < i → i < (r :: t).length → kd (r :: t) i = 7 → i = 1 ∧ r.kind = 5 ∧ kidsOf (r :: t) 0 = [1] := fun i h0 hi hk => by
      obtain ⟨p, hp, hp5, hp0, hm, hl1, _⟩ := hon_in hv hi hk (by have := ho.below i h0 hi; omega)
      have : p = 0 := by
        rcases Nat.eq_zero_or_pos p with e | e
        · exact e
        · have := ho.below p e (by omega); omega
      subst this
      have hm1 : 1 ∈ kidsOf (r :: t) ((0 : Nat) : Int) := by
        refine (kid_iff hg.wf (by simp)).2 ⟨by omega, by omega, ?_, fun j hj1 hj2 => ?_⟩
        · have h1 := ho.below 1 (by omega) (by omega)
          have h2 := hg.wf.step 0 (by omega)
          rw [ho.first] at h2 ⊢
          rw [Nat.zero_add] at h2
          omega
        · rw [ho.first]
          exact ho.below j hj1 (by omega)
      have hone : kidsOf (r :: t) ((0 : Nat) : Int) = [i] := by
        obtain ⟨a, ha⟩ := List.length_eq_one_iff.1 hl1
        rw [ha] at hm ⊢
        simp at hm
        rw [hm]
      rw [hone] at hm1
      simp at hm1
      subst hm1
      exact ⟨rfl, hp5, hone⟩
    by_cases h7 : r.kind = 7
    · have hno : ∀ i, i < (r :: t).length → kd (r :: t) i = 7 → dep (r :: t) i = 0 := fun i hi hk => by
        rcases Nat.eq_zero_or_pos i with e | e
        · subst e; exact ho.first
        · have := (hin i e hi hk).2.1; omega
      rw [(plR_top hno _ (Nat.le_refl _)).2, List.take_length, List.map_cons]
      have et : t.map (lowN false) = t := (List.map_congr_left fun n hn => nd_mem (P := fun n => lowN false n = id n) hn fun i hi => lowN_id fun hk => by
        have hi2 : i + 1 < (r :: t).length := by simp; omega
        have := (hin (i + 1) (by omega) hi2 ((kd_at hi2).trans hk)).2.1; omega).trans (List.map_id t)
      rw [et]
      have er : lowN false r = { r with kind := 2 } := by
        unfold lowN
        rw [if_pos h7]
        simp
      rw [er]
      exact hv.swap ho h7 (.inl rfl) hr0 (ndE_kind hown0 h7 (.inl rfl))
    · by_cases h1 : 1 < (r :: t).length ∧ kd (r :: t) 1 = 7
      · obtain ⟨h1l, h1k⟩ := h1
        obtain ⟨_, h5, hk1⟩ := hin 1 (by omega) h1l h1k
        obtain ⟨lv, lo⟩ := hv.low ho hk1
        cases t with
        | nil => simp at h1l
        | cons h t =>
          have hh0 : h.depth ≠ 0 := by
            have := ho.below 1 (by omega) h1l
            rw [dep_at h1l] at this
            have e : (r :: h :: t)[1].depth = h.depth := rfl
            omega
          have h7' : h.kind = 7 := h1k
          have htt : ∀ i, i < t.length → dep (r :: h :: t) (i + 2) ≠ 0 ∧ kd (r :: h :: t) (i + 2) ≠ 7 := fun i hi => by
            have hb := ho.below (i + 2) (by omega) (by simp; omega)
            exact ⟨by omega, fun hk => by have := (hin (i + 2) (by omega) (by simp; omega) hk).1; omega⟩
          have e := (plR_ring hr0 h7 h7' hh0 htt t.length (Nat.le_refl _)).2
          rw [List.take_length, low_map (fun n hn => nd_mem (P := fun n => n.kind ≠ 7) hn fun i hi => by have := (htt i hi).2; rw [kd_at (by simp; omega)] at this; exact this)] at e
          show Val ss (plR (r :: h :: t) (t.length + 2))
          rw [e]
          rw [List.map_cons] at lv lo
          exact lv.swap lo h7' (.inr h5) hr0 hown0
      · rw [plR_id fun i hi hk => ?_]
        · exact hv
        · rcases Nat.eq_zero_or_pos i with e | e
          · subst e; exact h7 hk
          · have := (hin i e hi hk).1
            subst this
            exact h1 ⟨hi, hk⟩
theorem Val.nil (ss : List Sg) : Val ss [] := ⟨fun i h => by simp at h, fun i h => by simp at h⟩
/-- Plain of a valid text is valid. -/
theorem Val.plain {ss : List Sg} {l : List Nd} (h : Val ss l) : Val ss (plR l l.length) :=
  h.groups (M := fun l => Val ss (plR l l.length)) (Val.nil ss) fun x y _ hy ho ih => by
    rw [plR_cat ho.first]
    exact ih.cat (hy.plain1 ho)
end Go.Proofs.YtimblabaeclhpaaGreat

/- PLAIN LAW: the line of two texts one behind the other. -/
namespace Go.Proofs.YtimblabaeclhpaaGreat
end Go.Proofs.YtimblabaeclhpaaGreat

/- PLAIN LAW: each leaf of a text is read once; how many gaps and glyphs of each sign there are. -/
namespace Go.Proofs.YtimblabaeclhpaaGreat
theorem range_cut {a b c : Nat} (h1 : a ≤ b) (h2 : b ≤ c) : List.range' a (c - a) = List.range' a (b - a) ++ List.range' b (c - b) := by
  have e := List.range'_append (s := a) (m := b - a) (n := c - b) (step := 1)
  rw [Nat.one_mul, show a + (b - a) = b by omega, show b - a + (c - b) = c - a by omega] at e
  exact e.symm
theorem end_leaf {l : List Nd} (hw : WfN l) {i : Nat} (_hi : i < l.length) (h : leafB (kd l i) = true) : endOf l i = i + 1 := by
  unfold endOf
  refine endR_stop (fun hc => ?_) _
  have := hw.leaf i (by omega) h
  omega
end Go.Proofs.YtimblabaeclhpaaGreat
