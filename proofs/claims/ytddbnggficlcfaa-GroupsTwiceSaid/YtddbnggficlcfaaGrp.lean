/- PLAIN LAW: two texts one behind the other: ends, kids, leaves. -/
import Derived.Test.YtddbnggficlcfaaChk
import Derived.Test.YtddbnggficlcfaaOrd2
import Derived.Test.YtddbnggficlcfaaSplL
namespace Go.Proofs.Ytddbnggficlcfaa
section
variable {x y : List Nd}
theorem dep_l {i : Nat} (h : i < x.length) : dep (x ++ y) i = dep x i := by unfold dep; rw [List.getElem?_append_left h]
theorem dep_r {i : Nat} : dep (x ++ y) (x.length + i) = dep y i := by unfold dep; rw [List.getElem?_append_right (by omega), Nat.add_sub_cancel_left]
theorem kd_l {i : Nat} (h : i < x.length) : kd (x ++ y) i = kd x i := by unfold kd; rw [List.getElem?_append_left h]
theorem kd_r {i : Nat} : kd (x ++ y) (x.length + i) = kd y i := by unfold kd; rw [List.getElem?_append_right (by omega), Nat.add_sub_cancel_left]
theorem nd_l {i : Nat} (h : i < x.length) : nd (x ++ y) i = nd x i := by unfold nd; rw [List.getD_eq_getElem?_getD, List.getD_eq_getElem?_getD, List.getElem?_append_left h]
theorem nd_r {i : Nat} : nd (x ++ y) (x.length + i) = nd y i := by unfold nd; rw [List.getD_eq_getElem?_getD, List.getD_eq_getElem?_getD, List.getElem?_append_right (by omega), Nat.add_sub_cancel_left]
theorem endR_l (hy : dep y 0 = 0) {d : Int} (hd : 0 ≤ d) : ∀ (f k : Nat), k ≤ x.length → x.length ≤ f + k → endR (x ++ y) d f k = endR x d f k
  | 0, k, h1, h2 => rfl
  | f + 1, k, h1, h2 => by
    unfold endR
    by_cases h : k < x.length
    · rw [dep_l h]
      by_cases hc : d < dep x k
      · rw [if_pos ⟨by simp; omega, hc⟩, if_pos ⟨h, hc⟩]
        exact endR_l hy hd f (k + 1) (by omega) (by omega)
      · rw [if_neg (fun h => hc h.2), if_neg (fun h => hc h.2)]
    · obtain rfl : k = x.length := by omega
      have e : dep (x ++ y) x.length = 0 := by have := dep_r (x := x) (y := y) (i := 0); rw [Nat.add_zero] at this; rw [this, hy]
      rw [e, if_neg (fun h => by have := h.2; omega), if_neg (fun h => by have := h.1; omega)]
theorem endR_r {d : Int} : ∀ (f k : Nat), endR (x ++ y) d f (x.length + k) = x.length + endR y d f k
  | 0, k => rfl
  | f + 1, k => by
    unfold endR
    rw [dep_r]
    by_cases hc : k < y.length ∧ d < dep y k
    · rw [if_pos ⟨by simp; omega, hc.2⟩, if_pos hc, Nat.add_assoc]
      exact endR_r f (k + 1)
    · rw [if_neg (fun h => hc ⟨by have := h.1; simp at this; omega, h.2⟩), if_neg hc]
theorem endOf_l (hy : dep y 0 = 0) {i : Nat} (hi : i < x.length) (hd : 0 ≤ dep x i) : endOf (x ++ y) i = endOf x i := by
  unfold endOf
  rw [dep_l hi, endR_l hy hd _ _ (by omega) (by simp; omega), endR_fuel _ x.length _ (by simp; omega) (by omega)]
theorem endOf_r {i : Nat} : endOf (x ++ y) (x.length + i) = x.length + endOf y i := by
  unfold endOf
  rw [dep_r, Nat.add_assoc, endR_r, endR_fuel (l := y) _ y.length _ (by simp; omega) (by omega)]
theorem kidsR_l (hy : dep y 0 = 0) (hx : ∀ i, i < x.length → 0 ≤ dep x i) {t : Nat} (ht : t ≤ x.length) : ∀ (f k : Nat), kidsR (x ++ y) t f k = kidsR x t f k
  | 0, k => rfl
  | f + 1, k => by
    unfold kidsR
    by_cases h : k < t
    · rw [if_pos h, if_pos h, endOf_l hy (by omega) (hx k (by omega)), kidsR_l hy hx ht f]
    · rw [if_neg h, if_neg h]
theorem kidsR_r {t : Nat} : ∀ (f k : Nat), kidsR (x ++ y) (x.length + t) f (x.length + k) = (kidsR y t f k).map (x.length + ·)
  | 0, k => rfl
  | f + 1, k => by
    unfold kidsR
    by_cases h : k < t
    · rw [if_pos (by omega), if_pos h, endOf_r, kidsR_r f, List.map_cons]
    · rw [if_neg (by omega), if_neg h]; rfl
theorem kids_l (hy : dep y 0 = 0) (hx : ∀ i, i < x.length → 0 ≤ dep x i) {i : Nat} (hi : i < x.length) : kidsOf (x ++ y) (i : Int) = kidsOf x (i : Int) := by
  unfold kidsOf kidsTo kidsFr kidsFrom
  rw [if_pos (by omega), if_pos (by omega), if_pos (by omega)]
  simp only [Int.toNat_natCast]
  rw [endOf_l hy hi (hx i hi)]
  exact kidsR_l hy hx (endOf_le hi) _ _
theorem kids_r {i : Nat} : kidsOf (x ++ y) ((x.length + i : Nat) : Int) = (kidsOf y (i : Int)).map (x.length + ·) := by
  unfold kidsOf kidsTo kidsFr kidsFrom
  rw [if_pos (by omega), if_pos (by omega), if_pos (by omega), if_pos (by omega)]
  simp only [Int.toNat_natCast]
  rw [endOf_r, Nat.add_assoc, show x.length + endOf y i - (x.length + (i + 1)) = endOf y i - (i + 1) by omega]
  exact kidsR_r _ _
theorem kids_top (hy : dep y 0 = 0) (hx : ∀ i, i < x.length → 0 ≤ dep x i) : kidsOf (x ++ y) (-1) = kidsOf x (-1) ++ (kidsOf y (-1)).map (x.length + ·) := by
  have h : ∀ (m k : Nat), x.length ≤ m + k → k ≤ x.length → kidsFrom (x ++ y) (x.length + y.length) k = kidsFrom x x.length k ++ (kidsFrom y y.length 0).map (x.length + ·) := by
    intro m
    induction m with
    | zero =>
      intro k h1 h2
      obtain rfl : k = x.length := by omega
      rw [kidsFrom_stop (l := x) (by omega), List.nil_append]
      unfold kidsFrom
      have := kidsR_r (x := x) (y := y) (t := y.length) (y.length - 0) 0
      rw [Nat.add_zero] at this
      rw [show x.length + y.length - x.length = y.length - 0 by omega, this]
    | succ m ih =>
      intro k h1 h2
      by_cases hk : k < x.length
      · rw [kidsFrom_s (l := x ++ y) (by omega), kidsFrom_s hk, endOf_l hy hk (hx k hk), ih _ (by have := endOf_gt x k; omega) (endOf_le hk)]
        rfl
      · exact ih k (by omega) h2
  have e : kidsOf (x ++ y) (-1) = kidsFrom (x ++ y) (x.length + y.length) 0 := by
    show kidsFrom (x ++ y) (x ++ y).length 0 = _
    rw [List.length_append]
  rw [e]
  exact h x.length 0 (by omega) (by omega)
theorem ordK_l (hy : dep y 0 = 0) (hx : ∀ i, i < x.length → 0 ≤ dep x i) {i : Nat} (hi : i < x.length) : ordK (x ++ y) (i : Int) = ordK x (i : Int) := by
  unfold ordK
  rw [kids_l hy hx hi]
  have e : kd (x ++ y) (i : Int).toNat = kd x (i : Int).toNat := kd_l hi
  by_cases h : 0 ≤ (i : Int) ∧ kd x (i : Int).toNat = 7
  · rw [if_pos ⟨h.1, e.trans h.2⟩, if_pos h]
  · rw [if_neg (fun h2 => h ⟨h2.1, e.symm.trans h2.2⟩), if_neg h]
theorem ordK_r {i : Nat} : ordK (x ++ y) ((x.length + i : Nat) : Int) = (ordK y (i : Int)).map (x.length + ·) := by
  unfold ordK
  rw [kids_r]
  have e : kd (x ++ y) ((x.length + i : Nat) : Int).toNat = kd y (i : Int).toNat := kd_r
  by_cases h : 0 ≤ (i : Int) ∧ kd y (i : Int).toNat = 7
  · rw [if_pos ⟨by omega, e.trans h.2⟩, if_pos h, List.map_append, List.map_tail, List.map_take]
  · rw [if_neg (fun h2 => h ⟨by omega, e.symm.trans h2.2⟩), if_neg h]
theorem lvs_l (hy : dep y 0 = 0) (hx : ∀ i, i < x.length → 0 ≤ dep x i) : ∀ (f i : Nat), i < x.length → lvs (x ++ y) f (i : Int) = lvs x f (i : Int)
  | 0, _, _ => rfl
  | f + 1, i, hi => by
    unfold lvs
    rw [ordK_l hy hx hi]
    have e : kd (x ++ y) (i : Int).toNat = kd x (i : Int).toNat := kd_l hi
    by_cases h : 0 ≤ (i : Int) ∧ leafB (kd x (i : Int).toNat) = true
    · rw [if_pos ⟨h.1, by rw [e]; exact h.2⟩, if_pos h]
    · rw [if_neg (fun h2 => h ⟨h2.1, by rw [← e]; exact h2.2⟩), if_neg h]
      unfold List.flatMap
      congr 1
      refine List.map_congr_left fun k hk => lvs_l hy hx f k ?_
      have := kidsOf_mem (l := x) (node := (i : Int)) (by omega) (by omega) (ordK_mem hk)
      omega
theorem lvs_r : ∀ (f i : Nat), i < y.length → lvs (x ++ y) f ((x.length + i : Nat) : Int) = (lvs y f (i : Int)).map (x.length + ·)
  | 0, _, _ => rfl
  | f + 1, i, hi => by
    unfold lvs
    rw [ordK_r]
    have e : kd (x ++ y) ((x.length + i : Nat) : Int).toNat = kd y (i : Int).toNat := kd_r
    by_cases h : 0 ≤ (i : Int) ∧ leafB (kd y (i : Int).toNat) = true
    · rw [if_pos ⟨by omega, by rw [e]; exact h.2⟩, if_pos h]; rfl
    · rw [if_neg (fun h2 => h ⟨by omega, by rw [← e]; exact h2.2⟩), if_neg h, List.flatMap_map, List.map_flatMap]
      unfold List.flatMap
      congr 1
      refine List.map_congr_left fun k hk => lvs_r f k ?_
      have := kidsOf_mem (l := y) (node := (i : Int)) (by omega) (by omega) (ordK_mem hk)
      omega
end
end Go.Proofs.Ytddbnggficlcfaa

/- PLAIN LAW: two texts one behind the other are valid if both are. -/
namespace Go.Proofs.Ytddbnggficlcfaa
/-- A text is valid but for its size. -/
def Val (ss : List Sg) (l : List Nd) : Prop := (∀ i, i < l.length → ownE ss l i = 0) ∧ ∀ i, i < l.length → famRs l i
theorem val_of {P : Int} {ss : List Sg} {l : List Nd} (h : chkE P ss l = 0) : listE P ss = 0 ∧ l.length ≤ 200 ∧ Val ss l :=
  ⟨(chkE_zero h).1, (chkE_zero h).2.1, firstE_get (chkE_zero h).2.2.1, (chkE_zero h).2.2.2⟩
theorem firstE_of {e : Nat → Int} : ∀ {n : Nat}, (∀ i, i < n → e i = 0) → firstE e n = 0 := by
  intro n h
  induction n with
  | zero => rfl
  | succ n ih => exact firstE_s (ih fun i hi => h i (by omega)) (h n (by omega))
theorem of_val {P : Int} {ss : List Sg} {l : List Nd} (h : listE P ss = 0) (h2 : l.length ≤ 200) (h3 : Val ss l) : chkE P ss l = 0 := chkE_ok h (by omega) (firstE_of h3.1) h3.2
theorem Val.good {ss : List Sg} {l : List Nd} (h : Val ss l) : Good l := good_of (firstE_of h.1)
theorem parR_l {x y : List Nd} {d : Int} : ∀ k, k ≤ x.length → parR (x ++ y) d k = parR x d k
  | 0, _ => rfl
  | k + 1, h => by
    unfold parR
    rw [dep_l (by omega), parR_l k (by omega)]
theorem parR_r {x y : List Nd} {d : Int} : ∀ (k p : Nat), parR y d k = (p : Int) → parR (x ++ y) d (x.length + k) = ((x.length + p : Nat) : Int)
  | 0, p, h => by unfold parR at h; omega
  | k + 1, p, h => by
    unfold parR at h
    rw [← Nat.add_assoc]
    unfold parR
    rw [dep_r]
    by_cases hc : dep y k < d
    · rw [if_pos hc] at h ⊢
      have : k = p := by omega
      rw [this]
    · rw [if_neg hc] at h ⊢
      exact parR_r k p h
theorem ndE_most {N : Nat} {ev : Bool} {m : Int} {n : Nd} (hd : n.depth = 0) (hm : 0 ≤ m) : ndE N ev m n = ndE N ev 0 n := by
  unfold ndE
  have e : (n.depth < 0 ∨ 4 < n.depth ∨ m < n.depth) ↔ (n.depth < 0 ∨ 4 < n.depth ∨ 0 < n.depth) := by omega
  simp only [e]
theorem own_l {ss : List Sg} {x y : List Nd} {i : Nat} (h : i < x.length) : ownE ss (x ++ y) i = ownE ss x i := by
  have e : mostOf (x ++ y) i = mostOf x i := by
    unfold mostOf
    by_cases h0 : i = 0
    · rw [if_pos h0, if_pos h0]
    · rw [if_neg h0, if_neg h0, kd_l (by omega), dep_l (by omega)]
  unfold ownE
  rw [nd_l h, e]
theorem own_r {ss : List Sg} {x y : List Nd} (hx : ∀ i, i < x.length → 0 ≤ dep x i) (hy : dep y 0 = 0) {i : Nat} (h : i < y.length) : ownE ss (x ++ y) (x.length + i) = ownE ss y i := by
  unfold ownE
  rw [nd_r]
  by_cases h0 : i = 0
  · subst h0
    have hd : (nd y 0).depth = 0 := by rw [nd_at h, ← dep_at h]; exact hy
    have hm : 0 ≤ mostOf (x ++ y) (x.length + 0) := by
      unfold mostOf
      by_cases hx0 : x.length + 0 = 0
      · rw [if_pos hx0]; exact Int.le_refl _
      · rw [if_neg hx0, dep_l (by omega)]
        have := hx (x.length + 0 - 1) (by omega)
        split <;> omega
    rw [ndE_most hd hm]
    rfl
  · have e : mostOf (x ++ y) (x.length + i) = mostOf y i := by
      unfold mostOf
      rw [if_neg (by omega), if_neg h0, show x.length + i - 1 = x.length + (i - 1) by omega, kd_r, dep_r]
    rw [e]
theorem fam_l {x y : List Nd} (hw : WfN x) (hy : dep y 0 = 0) {i : Nat} (h : i < x.length) : famRs (x ++ y) i ↔ famRs x i := by
  unfold famRs famR
  rw [kd_l h, dep_l h, kids_l hy hw.pos h]
  have hk : (∀ j ∈ kidsOf x (i : Int), kidOk (kd x i) (kd (x ++ y) j) = true) ↔ (∀ j ∈ kidsOf x (i : Int), kidOk (kd x i) (kd x j) = true) := by
    have e : ∀ j ∈ kidsOf x (i : Int), kd (x ++ y) j = kd x j := fun j hj => kd_l (by have := kidsOf_mem (l := x) (node := (i : Int)) (by omega) (by omega) hj; omega)
    exact ⟨fun h2 j hj => by rw [← e j hj]; exact h2 j hj, fun h2 j hj => by rw [e j hj]; exact h2 j hj⟩
  have hp : (kd x i = 7 → 0 < dep x i → kd (x ++ y) (parOf (x ++ y) i).toNat = 5 ∧ (kidsOf (x ++ y) (parOf (x ++ y) i)).length = 1) ↔ (kd x i = 7 → 0 < dep x i → kd x (parOf x i).toNat = 5 ∧ (kidsOf x (parOf x i)).length = 1) := by
    by_cases hd : 0 < dep x i
    · obtain ⟨p, hp, hpi, _, _⟩ := par_kid hw h hd
      have e : parOf (x ++ y) i = (p : Int) := by
        have : parOf (x ++ y) i = parOf x i := by unfold parOf; rw [dep_l h, parR_l i (by omega)]
        rw [this, hp]
      rw [e, hp, Int.toNat_natCast, kd_l (by omega), kids_l hy hw.pos (by omega)]
    · exact ⟨fun _ _ h2 => absurd h2 hd, fun _ _ h2 => absurd h2 hd⟩
  rw [hk, hp]
theorem fam_r {x y : List Nd} (hw : WfN y) {i : Nat} (h : i < y.length) : famRs (x ++ y) (x.length + i) ↔ famRs y i := by
  unfold famRs famR
  rw [kd_r, dep_r, kids_r, List.length_map]
  have hk : (∀ j ∈ (kidsOf y (i : Int)).map (x.length + ·), kidOk (kd y i) (kd (x ++ y) j) = true) ↔ (∀ j ∈ kidsOf y (i : Int), kidOk (kd y i) (kd y j) = true) := by
    constructor
    · intro h2 j hj
      have := h2 _ (List.mem_map_of_mem hj)
      rwa [kd_r] at this
    · intro h2 j hj
      obtain ⟨k, hk, rfl⟩ := List.mem_map.1 hj
      rw [kd_r]
      exact h2 k hk
  have hp : (kd y i = 7 → 0 < dep y i → kd (x ++ y) (parOf (x ++ y) (x.length + i)).toNat = 5 ∧ (kidsOf (x ++ y) (parOf (x ++ y) (x.length + i))).length = 1) ↔ (kd y i = 7 → 0 < dep y i → kd y (parOf y i).toNat = 5 ∧ (kidsOf y (parOf y i)).length = 1) := by
    by_cases hd : 0 < dep y i
    · obtain ⟨p, hp, hpi, _, _⟩ := par_kid hw h hd
      have e : parOf (x ++ y) (x.length + i) = ((x.length + p : Nat) : Int) := by
        unfold parOf
        rw [dep_r]
        exact parR_r i p hp
      rw [e, hp, Int.toNat_natCast, Int.toNat_natCast, kd_r, kids_r, List.length_map]
    · exact ⟨fun _ _ h2 => absurd h2 hd, fun _ _ h2 => absurd h2 hd⟩
  rw [hk, hp]
theorem Val.cat {ss : List Sg} {x y : List Nd} (hx : Val ss x) (hy : Val ss y) : Val ss (x ++ y) := by
  have gx := hx.good; have gy := hy.good
  refine ⟨fun i hi => ?_, fun i hi => ?_⟩
  · by_cases h : i < x.length
    · rw [own_l h]; exact hx.1 i h
    · obtain ⟨k, rfl⟩ : ∃ k, i = x.length + k := ⟨i - x.length, by omega⟩
      rw [own_r gx.wf.pos gy.wf.first (by simp at hi; omega)]
      exact hy.1 k (by simp at hi; omega)
  · by_cases h : i < x.length
    · exact (fam_l gx.wf gy.wf.first h).2 (hx.2 i h)
    · obtain ⟨k, rfl⟩ : ∃ k, i = x.length + k := ⟨i - x.length, by omega⟩
      exact (fam_r gy.wf (by simp at hi; omega)).2 (hy.2 k (by simp at hi; omega))
theorem Val.split {ss : List Sg} {x y : List Nd} (h : Val ss (x ++ y)) (hy : dep y 0 = 0) : Val ss x ∧ Val ss y := by
  have hox : ∀ i, i < x.length → ownE ss x i = 0 := fun i hi => by rw [← own_l (y := y) hi]; exact h.1 i (by simp; omega)
  have gx : Good x := good_of (firstE_of hox)
  have hoy : ∀ i, i < y.length → ownE ss y i = 0 := fun i hi => by rw [← own_r gx.wf.pos hy hi]; exact h.1 _ (by simp; omega)
  have gy : Good y := good_of (firstE_of hoy)
  exact ⟨⟨hox, fun i hi => (fam_l gx.wf hy hi).1 (h.2 i (by simp; omega))⟩, ⟨hoy, fun i hi => (fam_r gy.wf hi).1 (h.2 _ (by simp; omega))⟩⟩
end Go.Proofs.Ytddbnggficlcfaa

/- PLAIN LAW: a stretch of groups of a valid text is a valid text; put back, it gives the text again. -/
namespace Go.Proofs.Ytddbnggficlcfaa
def strG (l : List Nd) (a b : Nat) : List Nd := (l.take (posG l b)).drop (posG l a)
theorem dep_drop (l : List Nd) (k i : Nat) : dep (l.drop k) i = dep l (k + i) := by unfold dep; rw [List.getElem?_drop]
theorem dep_pos {l : List Nd} (hw : WfN l) {b : Nat} (hb : b ≤ (kidsOf l (-1)).length) : dep l (posG l b) = 0 := by
  rcases Nat.eq_or_lt_of_le hb with rfl | h
  · rw [posG_end]; unfold dep; rw [List.getElem?_eq_none (Nat.le_refl _)]
  · rw [posG_at h]
    have hm := List.getElem_mem h
    generalize (kidsOf l (-1))[b] = x at hm
    rw [← rkids_eq hw (by omega) (by omega)] at hm
    unfold rkids rkFrom at hm
    rw [if_neg (by omega)] at hm
    exact (rk_mem _ _ _ hm).2.2.1
theorem cut_take {l : List Nd} {a b : Nat} (h : a ≤ b) : l.take b = l.take a ++ (l.take b).drop a := by
  have e := List.take_append_drop a (l.take b)
  rw [List.take_take, Nat.min_eq_left h] at e
  exact e.symm
theorem Val.take {ss : List Sg} {l : List Nd} (h : Val ss l) {b : Nat} (hb : b ≤ (kidsOf l (-1)).length) : Val ss (l.take (posG l b)) ∧ Val ss (l.drop (posG l b)) := by
  have e : l.take (posG l b) ++ l.drop (posG l b) = l := List.take_append_drop _ _
  rw [← e] at h
  refine h.split ?_
  rw [dep_drop, Nat.add_zero]
  rw [e] at h
  exact dep_pos h.good.wf hb
theorem Val.str {ss : List Sg} {l : List Nd} (h : Val ss l) {a b : Nat} (hab : a ≤ b) (hb : b ≤ (kidsOf l (-1)).length) : Val ss (strG l a b) := by
  have hm := posG_mono' (l := l) hab hb
  have h1 := (h.take hb).1
  rw [cut_take hm] at h1
  refine (h1.split ?_).2
  rcases Nat.eq_or_lt_of_le hm with he | hlt
  · rw [← he, List.drop_eq_nil_of_le (by simp; omega)]
    rfl
  · rw [dep_drop, Nat.add_zero]
    have e : dep (l.take (posG l b)) (posG l a) = dep l (posG l a) := by unfold dep; rw [List.getElem?_take, if_pos hlt]
    rw [e]
    exact dep_pos h.good.wf (by omega)
theorem part_str {l : List Nd} (hw : WfN l) {i : Nat} (h : i < (kidsOf l (-1)).length) : partOf l (posG l i) = strG l i (i + 1) := by
  rw [part_grp hw h]
  unfold strG
  rw [List.drop_take]
theorem str_0 (l : List Nd) (a : Nat) : strG l a a = [] := by unfold strG; exact List.drop_eq_nil_of_le (by simp; omega)
theorem str_s {l : List Nd} {a i : Nat} (ha : a ≤ i) (h : i < (kidsOf l (-1)).length) : strG l a (i + 1) = strG l a i ++ strG l i (i + 1) := by
  have h1 := posG_mono' (l := l) ha (by omega)
  have h2 := posG_mono' (l := l) (i := i) (j := i + 1) (by omega) (by omega)
  have h3 := posG_le (l := l) (i := i) (by omega)
  have e := cut_take (l := l) h2
  have e2 : strG l a (i + 1) = (l.take (posG l i) ++ strG l i (i + 1)).drop (posG l a) := by show (l.take (posG l (i + 1))).drop (posG l a) = _; rw [e]; rfl
  rw [e2, List.drop_append_of_le_length (by simp; omega)]
  rfl
theorem str_len {l : List Nd} {a b : Nat} : (strG l a b).length ≤ l.length := by unfold strG; rw [List.length_drop, List.length_take]; omega
/-- A text whose groups are replaced by themselves is the text again. -/
theorem spO_self {l : List Nd} {f t : Nat} (hft : f ≤ t) (ht : t ≤ (kidsOf l (-1)).length) : spO l (strG l f t) f t = l := by
  unfold spO strG
  rw [← cut_take (posG_mono' hft ht), List.take_append_drop]
theorem str_ok {P : Int} {ss : List Sg} {l : List Nd} (h : chkE P ss l = 0) {a b : Nat} (hab : a ≤ b) (hb : b ≤ (kidsOf l (-1)).length) : chkE P ss (strG l a b) = 0 := by
  obtain ⟨h1, h2, h3⟩ := val_of h
  exact of_val h1 (Nat.le_trans str_len h2) (h3.str hab hb)
end Go.Proofs.Ytddbnggficlcfaa
