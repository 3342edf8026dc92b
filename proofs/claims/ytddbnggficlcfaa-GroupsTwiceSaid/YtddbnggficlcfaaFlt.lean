/- PLAIN LAW: group by group; Plain, Mirror of a valid text are valid, and change nothing the second time. -/
import Derived.Test.YtddbnggficlcfaaGrp
import Derived.Test.YtddbnggficlcfaaTextL
import Derived.Test.YtddbnggficlcfaaLine2
import Derived.Test.YtddbnggficlcfaaLinesE
import Derived.Test.YtddbnggficlcfaaFlatL
namespace Go.Proofs.Ytddbnggficlcfaa
/-- One group. -/
structure One (y : List Nd) : Prop where
  ne : 0 < y.length
  first : dep y 0 = 0
  below : ∀ i, 0 < i → i < y.length → 0 < dep y i
theorem str_one {l : List Nd} (hw : WfN l) {k : Nat} (h : k < (kidsOf l (-1)).length) : One (strG l k (k + 1)) := by
  have h1 := posG_s h
  have h2 := endOf_gt l (posG l k)
  have h3 := posG_le (l := l) (i := k + 1) (by omega)
  have h4 := posG_lt h
  have hlen : (strG l k (k + 1)).length = posG l (k + 1) - posG l k := by unfold strG; simp; omega
  have hdep : ∀ j, j < posG l (k + 1) - posG l k → dep (strG l k (k + 1)) j = dep l (posG l k + j) := fun j hj => by
    unfold strG
    rw [dep_drop]
    unfold dep
    rw [List.getElem?_take, if_pos (by omega)]
  have hd0 := dep_pos hw (b := k) (by omega)
  refine ⟨by omega, ?_, fun i hi hil => ?_⟩
  · rw [hdep 0 (by omega)]; exact hd0
  · rw [hdep i (by omega)]
    have : dep l (posG l k) < dep l (posG l k + i) := endR_low (l := l) (d := dep l (posG l k)) l.length (posG l k + 1) (posG l k + i) (by omega) (by show _ < endOf l (posG l k); omega)
    omega
/-- Group by group. -/
theorem Val.groups {ss : List Sg} {M : List Nd → Prop} (h0 : M []) (hs : ∀ x y, Val ss x → Val ss y → One y → M x → M (x ++ y)) {l : List Nd} (h : Val ss l) : M l := by
  have hk : ∀ k, k ≤ (kidsOf l (-1)).length → M (l.take (posG l k)) := by
    intro k
    induction k with
    | zero => intro _; rw [posG_0]; exact h0
    | succ k ih =>
      intro hk
      have hm := posG_mono' (l := l) (i := k) (j := k + 1) (by omega) hk
      rw [cut_take hm]
      exact hs _ _ (h.take (by omega)).1 (h.str (a := k) (b := k + 1) (by omega) hk) (str_one h.good.wf hk) (ih (by omega))
  have := hk _ (Nat.le_refl _)
  rwa [posG_end, List.take_length] at this
theorem ndE_dep {N : Nat} {ev : Bool} {m m' d : Int} {n : Nd} (h : ndE N ev m n = 0) (h1 : 0 ≤ d) (h2 : d ≤ 4) (h3 : d ≤ m') : ndE N ev m' { n with depth := d } = 0 := by
  have hz := ndE_zero h
  unfold ndE at h ⊢
  rw [if_neg (by omega), if_neg (by omega)] at h
  simp only []
  rw [if_neg (by omega), if_neg (by omega)]
  exact h
/-- An Honour becomes another node that is no leaf. -/
theorem ndE_kind {N : Nat} {ev : Bool} {m k : Int} {n : Nd} (h : ndE N ev m n = 0) (h1 : n.kind = 7) (hk : k = 2 ∨ k = 5) : ndE N ev m { n with kind := k } = 0 := by
  have hz := ndE_zero h
  unfold ndE at h ⊢
  rw [if_neg (by omega), if_neg (by omega), if_neg (by omega), if_neg (by omega)] at h
  simp only []
  rw [if_neg (by omega), if_neg (by omega), if_neg (by omega), if_neg (by omega)]
  exact h
theorem endR_dep {l m : List Nd} (hl : l.length = m.length) (hd : dep l = dep m) (d : Int) : ∀ f k, endR l d f k = endR m d f k
  | 0, _ => rfl
  | f + 1, k => by unfold endR; rw [hl, hd, endR_dep hl hd d f]
theorem endOf_dep {l m : List Nd} (hl : l.length = m.length) (hd : dep l = dep m) (i : Nat) : endOf l i = endOf m i := by
  unfold endOf
  rw [endR_dep hl hd, hl, hd]
theorem kidsR_dep {l m : List Nd} (hl : l.length = m.length) (hd : dep l = dep m) (e : Nat) : ∀ f k, kidsR l e f k = kidsR m e f k
  | 0, _ => rfl
  | f + 1, k => by unfold kidsR; rw [endOf_dep hl hd, kidsR_dep hl hd e f]
theorem kidsOf_dep {l m : List Nd} (hl : l.length = m.length) (hd : dep l = dep m) (node : Int) : kidsOf l node = kidsOf m node := by
  unfold kidsOf kidsFrom kidsTo
  rw [kidsR_dep hl hd, endOf_dep hl hd, hl]
theorem parR_dep {l m : List Nd} (hd : dep l = dep m) (d : Int) : ∀ k, parR l d k = parR m d k
  | 0 => rfl
  | k + 1 => by unfold parR; rw [hd, parR_dep hd d k]
theorem parOf_dep {l m : List Nd} (hd : dep l = dep m) (i : Nat) : parOf l i = parOf m i := by
  unfold parOf
  rw [parR_dep hd, hd]
/-- An Honour of a valid text that is no group is the only kid of a ring, which is a group. -/
theorem hon_in {ss : List Sg} {l : List Nd} (h : Val ss l) {i : Nat} (hi : i < l.length) (hk : kd l i = 7) (hd : dep l i ≠ 0) : ∃ p : Nat, p < i ∧ kd l p = 5 ∧ dep l p = 0 ∧ i ∈ kidsOf l (p : Int) ∧ (kidsOf l (p : Int)).length = 1 ∧ dep l i = 1 := by
  have hg := h.good
  have hp := hg.wf.pos i hi
  obtain ⟨p, hpo, hpi, hm, hdp⟩ := par_kid hg.wf hi (by omega)
  have h5 := (h.2 i hi).2.2.1 hk (by omega)
  rw [hpo, Int.toNat_natCast] at h5
  have h6 := (h.2 p (by omega)).2.1 h5.1
  have := hg.wf.pos p (by omega)
  exact ⟨p, hpi, h5.1, by omega, hm, h5.2, by omega⟩
theorem kid_swap {q : Int} (h : kidOk 7 q = true) (h7 : q ≠ 7) : kidOk 2 q = true ∧ kidOk 5 q = true := by
  have h2 : q ≠ 2 := fun e => by subst e; exact absurd h (by decide)
  unfold kidOk
  constructor <;> simp <;> omega
/-- The head of a group that is an Honour becomes a Beside or a Ring. -/
theorem Val.swap {ss : List Sg} {h r : Nd} {t : List Nd} (hv : Val ss (h :: t)) (ho : One (h :: t)) (h7 : h.kind = 7) (hr : r.kind = 2 ∨ r.kind = 5) (hr0 : r.depth = 0) (hro : ndE ss.length (evenOf ss r.sign) 0 r = 0) : Val ss (r :: t) := by
  have hh0 : h.depth = 0 := by have := ho.first; rwa [dep_at ho.ne] at this
  have hd : dep (r :: t) = dep (h :: t) := by
    funext i
    cases i with
    | zero => show r.depth = h.depth; omega
    | succ i => rfl
  have hl : (r :: t).length = (h :: t).length := rfl
  have hks : ∀ i, kd (r :: t) (i + 1) = kd (h :: t) (i + 1) := fun i => rfl
  have hk0 : kd (r :: t) 0 = r.kind := rfl
  have hk0' : kd (h :: t) 0 = 7 := h7
  have hno : ∀ i, i + 1 < (h :: t).length → kd (h :: t) (i + 1) ≠ 7 := fun i hi hk => by
    obtain ⟨p, hp, hp5, hp0, _⟩ := hon_in hv hi hk (by have := ho.below (i + 1) (by omega) hi; omega)
    have : p = 0 := by
      rcases Nat.eq_zero_or_pos p with e | e
      · exact e
      · have := ho.below p e (by omega); omega
    subst this
    omega
  have hmost : ∀ i, mostOf (r :: t) i = mostOf (h :: t) i := fun i => by
    unfold mostOf
    by_cases h0 : i = 0
    · rw [if_pos h0, if_pos h0]
    · rw [if_neg h0, if_neg h0, hd]
      obtain ⟨j, rfl⟩ : ∃ j, i = j + 1 := ⟨i - 1, by omega⟩
      rw [Nat.add_sub_cancel]
      cases j with
      | zero =>
        rw [hk0, hk0']
        have e1 : leafB r.kind = false := by unfold leafB; simp; omega
        have e2 : leafB 7 = false := rfl
        rw [e1, e2]
      | succ j => rw [hks]
  refine ⟨fun i hi => ?_, fun i hi => ?_⟩
  · cases i with
    | zero => exact hro
    | succ i =>
      have := hv.1 (i + 1) hi
      unfold ownE at this ⊢
      rw [hmost]
      exact this
  · have hf := hv.2 i hi
    unfold famRs famR at hf ⊢
    rw [kidsOf_dep hl hd, kidsOf_dep hl hd, parOf_dep hd, hd]
    have hkid : ∀ j ∈ kidsOf (h :: t) (i : Int), kd (r :: t) j = kd (h :: t) j ∧ kd (h :: t) j ≠ 7 := fun j hj => by
      have hm := kidsOf_mem (l := h :: t) (node := (i : Int)) (by omega) (by have : i < (h :: t).length := hi; omega) hj
      obtain ⟨q, rfl⟩ : ∃ q, j = q + 1 := ⟨j - 1, by omega⟩
      exact ⟨hks q, hno q hm.2⟩
    cases i with
    | zero =>
      rw [hk0'] at hf
      rw [hk0]
      obtain ⟨f1, f2, f3, f4⟩ := hf
      have e2 : leafB 7 = false := rfl
      rw [e2, if_neg (by simp), if_neg (by decide), if_neg (by decide)] at f1
      refine ⟨?_, fun _ => ?_, fun h _ => ?_, fun j hj => ?_⟩
      · have e1 : leafB r.kind = false := by unfold leafB; simp; omega
        rw [e1, if_neg (by decide)]
        rcases hr with e | e
        · rw [e, if_neg (by decide), if_neg (by decide)]; exact f1
        · rw [e, if_pos rfl]; omega
      · rw [ho.first]; exact Int.le_refl _
      · omega
      · have a := f4 j hj
        obtain ⟨b, c⟩ := hkid j hj
        rw [b]
        rcases hr with e | e
        · rw [e]; exact (kid_swap a c).1
        · rw [e]; exact (kid_swap a c).2
    | succ i =>
      rw [hks]
      obtain ⟨f1, f2, f3, f4⟩ := hf
      exact ⟨f1, f2, fun h => absurd h (hno i hi), fun j hj => by rw [(hkid j hj).1]; exact f4 j hj⟩
/-- Behind the head of a group, one less deep. -/
theorem Val.low {ss : List Sg} {r : Nd} {t : List Nd} (hv : Val ss (r :: t)) (ho : One (r :: t)) (h1 : kidsOf (r :: t) 0 = [1]) : Val ss (t.map (subN 1)) ∧ One (t.map (subN 1)) := by
  have hg := hv.good
  have ht : 0 < t.length := by
    have := (kidsOf_mem (l := r :: t) (node := 0) (by omega) (by simp) (x := 1) (by rw [h1]; simp)).2
    simpa using this
  have hzl : (t.map (subN 1)).length = t.length := List.length_map ..
  have hdep : ∀ i, i < t.length → dep (t.map (subN 1)) i = dep (r :: t) (i + 1) - 1 := fun i hi => by
    rw [dep_at (by omega), dep_at (by simpa using hi)]
    simp [subN]
  have hkd : ∀ i, kd (t.map (subN 1)) i = kd (r :: t) (i + 1) := fun i => by
    unfold kd
    rw [List.getElem?_map, List.getElem?_cons_succ]
    cases t[i]? <;> rfl
  have hend : ∀ (d : Int) (f k : Nat), endR (r :: t) (d + 1) f (k + 1) = endR (t.map (subN 1)) d f k + 1 := by
    intro d f
    induction f with
    | zero => intro k; rfl
    | succ f ih =>
      intro k
      unfold endR
      by_cases hk : k < t.length
      · rw [hdep k hk, hzl, List.length_cons]
        by_cases hc : d < dep (r :: t) (k + 1) - 1
        · rw [if_pos ⟨by omega, by omega⟩, if_pos ⟨hk, hc⟩, ih]
        · rw [if_neg (fun h => hc (by have := h.2; omega)), if_neg (fun h => hc h.2)]
      · rw [if_neg (fun h => hk (by have := h.1; simp at this; omega)), if_neg (fun h => hk (by have := h.1; rw [hzl] at this; exact this))]
  have hendO : ∀ i, i < t.length → endOf (r :: t) (i + 1) = endOf (t.map (subN 1)) i + 1 := fun i hi => by
    unfold endOf
    have e := hdep i hi
    rw [show dep (r :: t) (i + 1) = dep (t.map (subN 1)) i + 1 by omega, hend]
    rw [endR_fuel (l := t.map (subN 1)) (r :: t).length (t.map (subN 1)).length (i + 1) (by simp; omega) (by omega)]
  have hkR : ∀ (e : Nat), e ≤ t.length → ∀ f k, kidsR (r :: t) (e + 1) f (k + 1) = (kidsR (t.map (subN 1)) e f k).map (· + 1) := by
    intro e he f
    induction f with
    | zero => intro k; rfl
    | succ f ih =>
      intro k
      unfold kidsR
      by_cases hk : k < e
      · rw [if_pos (by omega), if_pos hk, hendO k (by omega), ih, List.map_cons]
      · rw [if_neg (by omega), if_neg hk]; rfl
  have hkids : ∀ i, i < t.length → kidsOf (r :: t) ((i + 1 : Nat) : Int) = (kidsOf (t.map (subN 1)) (i : Int)).map (· + 1) := fun i hi => by
    unfold kidsOf kidsTo kidsFr kidsFrom
    rw [if_pos (by omega), if_pos (by omega), if_pos (by omega), if_pos (by omega)]
    simp only [Int.toNat_natCast]
    rw [hendO i hi, show endOf (t.map (subN 1)) i + 1 - (i + 1 + 1) = endOf (t.map (subN 1)) i - (i + 1) by omega]
    exact hkR _ (by have := endOf_le (l := t.map (subN 1)) (i := i) (by omega); omega) _ _
  have hd1 : dep (r :: t) 1 = 1 := by
    have := ((kid_iff hg.wf (i := 0) (x := 1) (by simp)).1 (by rw [show ((0 : Nat) : Int) = 0 from rfl, h1]; simp)).2.2.1
    rw [ho.first] at this
    omega
  have hd2 : ∀ i, 0 < i → i < t.length → 2 ≤ dep (r :: t) (i + 1) := fun i h0 hi => by
    have hb := ho.below (i + 1) (by omega) (by simp; omega)
    rcases Int.lt_or_le (dep (r :: t) (i + 1)) 2 with hlt | hge
    · exfalso
      have hm : i + 1 ∈ kidsOf (r :: t) ((0 : Nat) : Int) := (kid_iff hg.wf (by simp)).2 ⟨by omega, by simp; omega, by rw [ho.first]; omega, fun j hj1 hj2 => by rw [ho.first]; exact ho.below j hj1 (by simp; omega)⟩
      rw [show ((0 : Nat) : Int) = 0 from rfl, h1] at hm
      simp at hm
      omega
    · exact hge
  refine ⟨⟨fun i hi => ?_, fun i hi => ?_⟩, ⟨by omega, by rw [hdep 0 ht]; show dep (r :: t) 1 - 1 = 0; omega, fun i h0 hi => by rw [hdep i (by omega)]; have := hd2 i h0 (by omega); omega⟩⟩
  · rw [hzl] at hi
    have h2 := hv.1 (i + 1) (by simp; omega)
    have h3 := hg.deps (i + 1) (by simp; omega)
    unfold ownE at h2 ⊢
    have e : nd (t.map (subN 1)) i = { nd (r :: t) (i + 1) with depth := dep (r :: t) (i + 1) - 1 } := by
      rw [nd_at (by omega), nd_at (by simpa using hi), dep_at (by simpa using hi)]
      simp [subN]
    have hb := ho.below (i + 1) (by omega) (by simp; omega)
    rw [e]
    refine ndE_dep h2 (by omega) (by omega) ?_
    cases i with
    | zero => unfold mostOf; rw [if_pos rfl]; show dep (r :: t) 1 - 1 ≤ 0; omega
    | succ i =>
      have hm := (own_zero (by simp; omega) (hv.1 (i + 1 + 1) (by simp; omega))).2.2
      unfold mostOf at hm ⊢
      rw [if_neg (by omega), Nat.add_sub_cancel] at hm ⊢
      rw [hkd, hdep i (by omega)]
      split at hm
      · rename_i hc; rw [if_pos hc]; omega
      · rename_i hc; rw [if_neg hc]; omega
  · rw [hzl] at hi
    have hf := hv.2 (i + 1) (by simp; omega)
    obtain ⟨f1, f2, f3, f4⟩ := hf
    have hb := ho.below (i + 1) (by omega) (by simp; omega)
    rw [hkids i hi] at f1 f4
    rw [List.length_map] at f1
    refine ⟨by rw [hkd]; exact f1, fun h => ?_, fun h h0 => ?_, fun j hj => ?_⟩
    · rw [hkd] at h; have := f2 h; omega
    · rw [hkd] at h
      rw [hdep i hi] at h0
      obtain ⟨_, _, _, _, _, _, hx⟩ := hon_in hv (i := i + 1) (by simp; omega) h (by omega)
      omega
    · rw [hkd, hkd]
      exact f4 _ (List.mem_map_of_mem hj)
/-- No Honour, or groups alone: Plain changes kinds alone. -/
theorem plR_top {l : List Nd} (h : ∀ i, i < l.length → kd l i = 7 → dep l i = 0) : ∀ k, k ≤ l.length → inH l k = false ∧ plR l k = (l.take k).map (lowN false)
  | 0, _ => ⟨rfl, rfl⟩
  | k + 1, hk => by
    obtain ⟨i1, i2⟩ := plR_top h k (by omega)
    have hH : inH l (k + 1) = false := by
      unfold inH
      split
      · rfl
      · rename_i h0
        rw [if_neg (fun h7 => h0 (h k (by omega) h7))]
        exact i1
    refine ⟨hH, ?_⟩
    unfold plR
    rw [if_neg (fun hc => hc.1 (h k (by omega) hc.2)), hH, i2, List.take_add_one, List.getElem?_eq_getElem (by omega), Option.toList_some, List.map_append, nd_at (by omega)]
    rfl
theorem lowN_id {n : Nd} (h : n.kind ≠ 7) : lowN false n = n := by
  unfold lowN
  rw [if_neg h]
  simp
theorem plR_id {l : List Nd} (h : ∀ i, i < l.length → kd l i ≠ 7) : plR l l.length = l := by
  rw [(plR_top (fun i hi h7 => absurd h7 (h i hi)) _ (Nat.le_refl _)).2, List.take_length]
  refine (List.map_congr_left fun n hn => ?_).trans (List.map_id l)
  obtain ⟨i, hi, rfl⟩ := List.getElem_of_mem hn
  exact lowN_id (by have := h i hi; rwa [kd_at hi] at this)
theorem plR_no7 {l : List Nd} : ∀ k, ∀ n ∈ plR l k, n.kind ≠ 7
  | 0, _, h => by simp [plR] at h
  | k + 1, n, h => by
    unfold plR at h
    split at h
    · exact plR_no7 k n h
    · rcases List.mem_append.1 h with h | h
      · exact plR_no7 k n h
      · simp only [List.mem_cons, List.not_mem_nil, or_false] at h
        subst h
        unfold lowN
        simp only []
        split <;> omega
/-- Plain changes nothing the second time. -/
theorem plR_twice (l : List Nd) : plR (plR l l.length) (plR l l.length).length = plR l l.length := by
  refine plR_id fun i hi h => ?_
  rw [kd_at hi] at h
  exact plR_no7 _ _ (List.getElem_mem hi) h
theorem inH_l {x y : List Nd} : ∀ k, k ≤ x.length → inH (x ++ y) k = inH x k
  | 0, _ => rfl
  | k + 1, h => by unfold inH; rw [dep_l (by omega), kd_l (by omega), inH_l k (by omega)]
theorem plR_l {x y : List Nd} : ∀ k, k ≤ x.length → plR (x ++ y) k = plR x k
  | 0, _ => rfl
  | k + 1, h => by unfold plR; rw [dep_l (by omega), kd_l (by omega), nd_l (by omega), inH_l (k + 1) h, plR_l k (by omega)]
theorem inH_r {x y : List Nd} (hy : dep y 0 = 0) : ∀ k, inH (x ++ y) (x.length + (k + 1)) = inH y (k + 1)
  | 0 => by
    show inH (x ++ y) (x.length + 1) = _
    unfold inH
    have := dep_r (x := x) (y := y) (i := 0)
    rw [Nat.add_zero] at this
    rw [this, hy, if_pos rfl, if_pos rfl]
  | k + 1 => by
    show inH (x ++ y) (x.length + (k + 1) + 1) = _
    unfold inH
    rw [dep_r, kd_r, inH_r hy k]
theorem plR_r {x y : List Nd} (hy : dep y 0 = 0) : ∀ k, plR (x ++ y) (x.length + k) = plR x x.length ++ plR y k
  | 0 => by rw [Nat.add_zero, plR_l _ (Nat.le_refl _)]; simp [plR]
  | k + 1 => by
    have e := inH_r (x := x) hy k
    have e1 : plR (x ++ y) (x.length + k + 1) = if dep y k ≠ 0 ∧ kd y k = 7 then plR (x ++ y) (x.length + k) else plR (x ++ y) (x.length + k) ++ [lowN (inH y (k + 1)) (nd y k)] := by
      rw [plR, dep_r, kd_r, nd_r, show x.length + k + 1 = x.length + (k + 1) from rfl, e]
    have e2 : plR y (k + 1) = if dep y k ≠ 0 ∧ kd y k = 7 then plR y k else plR y k ++ [lowN (inH y (k + 1)) (nd y k)] := rfl
    show plR (x ++ y) (x.length + k + 1) = _
    rw [e1, e2, plR_r hy k]
    split
    · rfl
    · rw [List.append_assoc]
theorem plR_cat {x y : List Nd} (hy : dep y 0 = 0) : plR (x ++ y) (x ++ y).length = plR x x.length ++ plR y y.length := by
  rw [List.length_append]
  exact plR_r hy _
theorem low_map {t : List Nd} (h : ∀ n ∈ t, n.kind ≠ 7) : t.map (lowN true) = t.map (subN 1) := List.map_congr_left fun n hn => by
  unfold lowN subN
  rw [if_neg (h n hn)]
  simp
/-- Plain of a ring around an Honour. -/
theorem plR_ring {r h : Nd} {t : List Nd} (hr : r.depth = 0) (hr5 : r.kind ≠ 7) (hh : h.kind = 7) (hh0 : h.depth ≠ 0) (ht : ∀ i, i < t.length → dep (r :: h :: t) (i + 2) ≠ 0 ∧ kd (r :: h :: t) (i + 2) ≠ 7) :
    ∀ k, k ≤ t.length → inH (r :: h :: t) (k + 2) = true ∧ plR (r :: h :: t) (k + 2) = r :: (t.take k).map (lowN true)
  | 0, _ => by
    have e1 : dep (r :: h :: t) 1 = h.depth := rfl
    have e2 : kd (r :: h :: t) 1 = h.kind := rfl
    have e3 : dep (r :: h :: t) 0 = r.depth := rfl
    have e4 : kd (r :: h :: t) 0 = r.kind := rfl
    constructor
    · show inH (r :: h :: t) (1 + 1) = true
      unfold inH
      rw [e1, e2, if_neg hh0, if_pos hh]
    · show plR (r :: h :: t) (1 + 1) = _
      unfold plR
      rw [e1, e2, if_pos ⟨hh0, hh⟩]
      show plR (r :: h :: t) (0 + 1) = _
      unfold plR
      rw [e3, e4, if_neg (fun hc => hc.1 hr)]
      have e5 : inH (r :: h :: t) (0 + 1) = false := by unfold inH; rw [e3, if_pos hr]
      rw [e5]
      show [] ++ [lowN false r] = _
      rw [lowN_id hr5]
      rfl
  | k + 1, hk => by
    obtain ⟨i1, i2⟩ := plR_ring hr hr5 hh hh0 ht k (by omega)
    obtain ⟨t1, t2⟩ := ht k (by omega)
    have hH : inH (r :: h :: t) (k + 2 + 1) = true := by
      unfold inH
      rw [if_neg t1, if_neg t2]
      exact i1
    refine ⟨hH, ?_⟩
    show plR (r :: h :: t) (k + 2 + 1) = _
    unfold plR
    rw [if_neg (fun hc => t2 hc.2), hH, i2, List.take_add_one, List.getElem?_eq_getElem (by omega), Option.toList_some, List.map_append, List.cons_append, nd_at (by simp; omega)]
    rfl
theorem nd_mem {l : List Nd} {n : Nd} {P : Nd → Prop} (hn : n ∈ l) (h : ∀ i (hi : i < l.length), P l[i]) : P n := by
  obtain ⟨i, hi, rfl⟩ := List.getElem_of_mem hn
  exact h i hi
/-- Plain of one group is valid. -/
theorem Val.plain1 {ss : List Sg} {y : List Nd} (hv : Val ss y) (ho : One y) : Val ss (plR y y.length) := by
  have hg := hv.good
  cases y with
  | nil => exact absurd ho.ne (by simp)
  | cons r t =>
    have hr0 : r.depth = 0 := by have := ho.first; rwa [dep_at ho.ne] at this
    have hown0 := hv.1 0 ho.ne
    unfold ownE at hown0
    have e0 : nd (r :: t) 0 = r := rfl
    have m0 : mostOf (r :: t) 0 = 0 := rfl
    rw [e0, m0] at hown0
    -- an Honour below is node 1, and the head a ring
    have hin : ∀ i, 0 < i → i < (r :: t).length → kd (r :: t) i = 7 → i = 1 ∧ r.kind = 5 ∧ kidsOf (r :: t) 0 = [1] := fun i h0 hi hk => by
      obtain ⟨p, hp, hp5, hp0, hm, hl1, _⟩ := hon_in hv hi hk (by have := ho.below i h0 hi; omega)
      have : p = 0 := by
        rcases Nat.eq_zero_or_pos p with e | e
        · exact e
        · have := ho.below p e (by omega); omega
      subst this
      have hm1 : 1 ∈ kidsOf (r :: t) ((0 : Nat) : Int) := by
        refine (kid_iff hg.wf (by simp)).2 ⟨by omega, by omega, ?_, fun j hj1 hj2 => ?_⟩
        · have h1 := ho.below 1 (by omega) (by omega)
          have h2 := hg.wf.step 0 (by omega)
          rw [ho.first] at h2 ⊢
          rw [Nat.zero_add] at h2
          omega
        · rw [ho.first]
          exact ho.below j hj1 (by omega)
      have hone : kidsOf (r :: t) ((0 : Nat) : Int) = [i] := by
        obtain ⟨a, ha⟩ := List.length_eq_one_iff.1 hl1
        rw [ha] at hm ⊢
        simp at hm
        rw [hm]
      rw [hone] at hm1
      simp at hm1
      subst hm1
      exact ⟨rfl, hp5, hone⟩
    by_cases h7 : r.kind = 7
    · have hno : ∀ i, i < (r :: t).length → kd (r :: t) i = 7 → dep (r :: t) i = 0 := fun i hi hk => by
        rcases Nat.eq_zero_or_pos i with e | e
        · subst e; exact ho.first
        · have := (hin i e hi hk).2.1; omega
      rw [(plR_top hno _ (Nat.le_refl _)).2, List.take_length, List.map_cons]
      have et : t.map (lowN false) = t := (List.map_congr_left fun n hn => nd_mem (P := fun n => lowN false n = id n) hn fun i hi => lowN_id fun hk => by
        have hi2 : i + 1 < (r :: t).length := by simp; omega
        have := (hin (i + 1) (by omega) hi2 ((kd_at hi2).trans hk)).2.1; omega).trans (List.map_id t)
      rw [et]
      have er : lowN false r = { r with kind := 2 } := by
        unfold lowN
        rw [if_pos h7]
        simp
      rw [er]
      exact hv.swap ho h7 (.inl rfl) hr0 (ndE_kind hown0 h7 (.inl rfl))
    · by_cases h1 : 1 < (r :: t).length ∧ kd (r :: t) 1 = 7
      · obtain ⟨h1l, h1k⟩ := h1
        obtain ⟨_, h5, hk1⟩ := hin 1 (by omega) h1l h1k
        obtain ⟨lv, lo⟩ := hv.low ho hk1
        cases t with
        | nil => simp at h1l
        | cons h t =>
          have hh0 : h.depth ≠ 0 := by
            have := ho.below 1 (by omega) h1l
            rw [dep_at h1l] at this
            have e : (r :: h :: t)[1].depth = h.depth := rfl
            omega
          have h7' : h.kind = 7 := h1k
          have htt : ∀ i, i < t.length → dep (r :: h :: t) (i + 2) ≠ 0 ∧ kd (r :: h :: t) (i + 2) ≠ 7 := fun i hi => by
            have hb := ho.below (i + 2) (by omega) (by simp; omega)
            exact ⟨by omega, fun hk => by have := (hin (i + 2) (by omega) (by simp; omega) hk).1; omega⟩
          have e := (plR_ring hr0 h7 h7' hh0 htt t.length (Nat.le_refl _)).2
          rw [List.take_length, low_map (fun n hn => nd_mem (P := fun n => n.kind ≠ 7) hn fun i hi => by have := (htt i hi).2; rw [kd_at (by simp; omega)] at this; exact this)] at e
          show Val ss (plR (r :: h :: t) (t.length + 2))
          rw [e]
          rw [List.map_cons] at lv lo
          exact lv.swap lo h7' (.inr h5) hr0 hown0
      · rw [plR_id fun i hi hk => ?_]
        · exact hv
        · rcases Nat.eq_zero_or_pos i with e | e
          · subst e; exact h7 hk
          · have := (hin i e hi hk).1
            subst this
            exact h1 ⟨hi, hk⟩
theorem Val.nil (ss : List Sg) : Val ss [] := ⟨fun i h => by simp at h, fun i h => by simp at h⟩
/-- Plain of a valid text is valid. -/
theorem Val.plain {ss : List Sg} {l : List Nd} (h : Val ss l) : Val ss (plR l l.length) :=
  h.groups (M := fun l => Val ss (plR l l.length)) (Val.nil ss) fun x y _ hy ho ih => by
    rw [plR_cat ho.first]
    exact ih.cat (hy.plain1 ho)
/-- Mirror. -/
theorem mirN_kind (ss : List Sg) (n : Nd) : (mirN ss n).kind = n.kind ∧ (mirN ss n).depth = n.depth ∧ (mirN ss n).sign = n.sign := by
  unfold mirN
  split <;> exact ⟨rfl, rfl, rfl⟩
theorem mirN_twice (ss : List Sg) (n : Nd) : mirN ss (mirN ss n) = n := by
  unfold mirN
  by_cases h : n.kind = 1 ∧ evenOf ss n.sign = false
  · rw [if_pos h]
    rw [if_pos h]
    simp
  · rw [if_neg h, if_neg h]
theorem mir_twice (ss : List Sg) (l : List Nd) : (l.map (mirN ss)).map (mirN ss) = l := by
  rw [List.map_map]
  exact (List.map_congr_left fun n _ => mirN_twice ss n).trans (List.map_id l)
theorem ndE_mir {ss : List Sg} {m : Int} {n : Nd} (h : ndE ss.length (evenOf ss n.sign) m n = 0) : ndE ss.length (evenOf ss (mirN ss n).sign) m (mirN ss n) = 0 := by
  by_cases hc : n.kind = 1 ∧ evenOf ss n.sign = false
  · have e : mirN ss n = { n with mir := !n.mir } := if_pos hc
    rw [e]
    obtain ⟨h1, h2⟩ := hc
    unfold ndE at h ⊢
    simp only [h1, h2, if_true, Bool.false_eq_true, and_false, or_false] at h ⊢
    exact h
  · have e : mirN ss n = n := if_neg hc
    rw [e]
    exact h
theorem Val.mirror {ss : List Sg} {l : List Nd} (h : Val ss l) : Val ss (l.map (mirN ss)) := by
  have hl : (l.map (mirN ss)).length = l.length := List.length_map ..
  have hd : dep (l.map (mirN ss)) = dep l := by
    funext i
    unfold dep
    rw [List.getElem?_map]
    cases l[i]? with
    | none => rfl
    | some n => exact (mirN_kind ss n).2.1
  have hk : kd (l.map (mirN ss)) = kd l := by
    funext i
    unfold kd
    rw [List.getElem?_map]
    cases l[i]? with
    | none => rfl
    | some n => exact (mirN_kind ss n).1
  refine ⟨fun i hi => ?_, fun i hi => ?_⟩
  · rw [hl] at hi
    have h1 := h.1 i hi
    unfold ownE at h1 ⊢
    have e : nd (l.map (mirN ss)) i = mirN ss (nd l i) := by rw [nd_at (by omega), nd_at hi, List.getElem_map]
    have e2 : mostOf (l.map (mirN ss)) i = mostOf l i := by unfold mostOf; rw [hd, hk]
    rw [e, e2]
    exact ndE_mir h1
  · rw [hl] at hi
    have h2 := h.2 i hi
    unfold famRs famR at h2 ⊢
    rw [kidsOf_dep hl hd, kidsOf_dep hl hd, parOf_dep hd, hd, hk]
    exact h2
end Go.Proofs.Ytddbnggficlcfaa

/- PLAIN LAW: the line of two texts one behind the other. -/
namespace Go.Proofs.Ytddbnggficlcfaa
theorem mkAt_l {x y : List Nd} {i : Nat} (h : i < x.length) : mkAt (x ++ y) i = mkAt x i := by unfold mkAt; rw [List.getElem?_append_left h]
theorem mkAt_r {x y : List Nd} {i : Nat} : mkAt (x ++ y) (x.length + i) = mkAt y i := by unfold mkAt; rw [List.getElem?_append_right (by omega), Nat.add_sub_cancel_left]
/-- The leaves in groups. -/
theorem leaves_kids (l : List Nd) : leaves l = (kidsOf l (-1)).flatMap fun k : Nat => lvs l l.length (k : Int) := by
  have h1 := lvs_no (l := l) (f := l.length) (node := -1) (fun h => by have := h.1; omega)
  have h2 : ordK l (-1) = kidsOf l (-1) := if_neg (fun h => by have := h.1; omega)
  rw [h2] at h1
  unfold dn at h1
  rw [List.take_length] at h1
  exact h1
/-- More fuel than nodes changes nothing. -/
theorem lvs_fuel {l : List Nd} : ∀ (f g i : Nat), i < l.length → l.length ≤ f + i → l.length ≤ g + i → lvs l f (i : Int) = lvs l g (i : Int)
  | 0, _, i, h, h1, _ => by omega
  | _ + 1, 0, i, h, _, h2 => by omega
  | f + 1, g + 1, i, h, h1, h2 => by
    unfold lvs
    split
    · rfl
    · unfold List.flatMap
      congr 1
      refine List.map_congr_left fun k hk => ?_
      have := kidsOf_mem (l := l) (node := (i : Int)) (by omega) (by omega) (ordK_mem hk)
      exact lvs_fuel f g k (by omega) (by omega) (by omega)
theorem leaves_cat {x y : List Nd} (hy : dep y 0 = 0) (hx : ∀ i, i < x.length → 0 ≤ dep x i) : leaves (x ++ y) = leaves x ++ (leaves y).map (x.length + ·) := by
  rw [leaves_kids, leaves_kids x, leaves_kids y, kids_top hy hx, List.flatMap_append, List.flatMap_map, List.map_flatMap]
  have hkx : ∀ k ∈ kidsOf x (-1), k < x.length := fun k hk => by have := (kidsOf_mem (l := x) (node := -1) (by omega) (by omega) hk).2; omega
  have hky : ∀ k ∈ kidsOf y (-1), k < y.length := fun k hk => by have := (kidsOf_mem (l := y) (node := -1) (by omega) (by omega) hk).2; omega
  congr 1
  · unfold List.flatMap
    congr 1
    refine List.map_congr_left fun k hk => ?_
    rw [lvs_l hy hx _ k (hkx k hk)]
    exact lvs_fuel _ _ k (hkx k hk) (by simp; omega) (by omega)
  · unfold List.flatMap
    congr 1
    refine List.map_congr_left fun k hk => ?_
    rw [lvs_r _ k (hky k hk), lvs_fuel (x ++ y).length y.length k (hky k hk) (by simp; omega) (by omega)]
theorem marks_cat {x y : List Nd} (hy : dep y 0 = 0) (hx : ∀ i, i < x.length → 0 ≤ dep x i) : marks (x ++ y) = marks x ++ marks y := by
  unfold marks
  rw [leaves_cat hy hx, List.map_append, List.map_map]
  congr 1
  · refine List.map_congr_left fun k hk => mkAt_l ?_
    unfold leaves at hk
    exact lvs_mem _ _ (by omega) (by omega) k hk
  · exact List.map_congr_left fun k _ => mkAt_r
/-- The marks of the document's way to splice: of the first k rounds. -/
def mkR (l wt : List Nd) (fr t2 : Int) : Nat → List Mk
  | 0 => []
  | i + 1 => (if (i : Int) = fr then mkR l wt fr t2 i ++ marks wt else mkR l wt fr t2 i) ++ (if i < (kidsOf l (-1)).length ∧ ((i : Int) < fr ∨ t2 ≤ i) then marks (partOf l (posG l i)) else [])
theorem val_nil' (ss : List Sg) : Val ss [] := ⟨fun i h => by simp at h, fun i h => by simp at h⟩
theorem spR_marks {ss : List Sg} {l wt : List Nd} (hl : Val ss l) (hw : Val ss wt) (fr t2 : Int) : ∀ k, Val ss (spR l wt fr t2 k) ∧ marks (spR l wt fr t2 k) = mkR l wt fr t2 k
  | 0 => ⟨val_nil' ss, rfl⟩
  | i + 1 => by
    obtain ⟨h1, h2⟩ := spR_marks hl hw fr t2 i
    have ha : Val ss (if (i : Int) = fr then spR l wt fr t2 i ++ wt else spR l wt fr t2 i) ∧ marks (if (i : Int) = fr then spR l wt fr t2 i ++ wt else spR l wt fr t2 i) = (if (i : Int) = fr then mkR l wt fr t2 i ++ marks wt else mkR l wt fr t2 i) := by
      by_cases h : (i : Int) = fr
      · rw [if_pos h, if_pos h, ← h2]
        exact ⟨h1.cat hw, marks_cat hw.good.wf.first h1.good.wf.pos⟩
      · rw [if_neg h, if_neg h]
        exact ⟨h1, h2⟩
    rw [spR_s]
    by_cases h : i < (kidsOf l (-1)).length ∧ ((i : Int) < fr ∨ t2 ≤ i)
    · have hp : Val ss (partOf l (posG l i)) := by rw [part_str hl.good.wf h.1]; exact hl.str (by omega) (by omega)
      have e : mkR l wt fr t2 (i + 1) = (if (i : Int) = fr then mkR l wt fr t2 i ++ marks wt else mkR l wt fr t2 i) ++ marks (partOf l (posG l i)) := by rw [mkR, if_pos h]
      rw [e, if_pos h, ← ha.2]
      exact ⟨ha.1.cat hp, marks_cat hp.good.wf.first ha.1.good.wf.pos⟩
    · have e : mkR l wt fr t2 (i + 1) = (if (i : Int) = fr then mkR l wt fr t2 i ++ marks wt else mkR l wt fr t2 i) := by rw [mkR, if_neg h, List.append_nil]
      rw [e, if_neg h, List.append_nil]
      exact ha
/-- The line of a text with some groups replaced. -/
theorem spO_marks {ss : List Sg} {l wt : List Nd} (hl : Val ss l) (hw : Val ss wt) {f t : Nat} (h1 : f ≤ t) (h2 : t ≤ (kidsOf l (-1)).length) : Val ss (spO l wt f t) ∧ marks (spO l wt f t) = mkR l wt f t ((kidsOf l (-1)).length + 1) := by
  have := spR_marks hl hw (f : Int) (t : Int) ((kidsOf l (-1)).length + 1)
  rwa [spR_all hl.good.wf h1 h2] at this
end Go.Proofs.Ytddbnggficlcfaa

/- PLAIN LAW: each leaf of a text is read once; how many gaps and glyphs of each sign there are. -/
namespace Go.Proofs.Ytddbnggficlcfaa
/-- The leaves among some nodes. -/
def lfs (l : List Nd) (xs : List Nat) : List Nat := xs.filter fun i => leafB (kd l i)
theorem range_cut {a b c : Nat} (h1 : a ≤ b) (h2 : b ≤ c) : List.range' a (c - a) = List.range' a (b - a) ++ List.range' b (c - b) := by
  have e := List.range'_append (s := a) (m := b - a) (n := c - b) (step := 1)
  rw [Nat.one_mul, show a + (b - a) = b by omega, show b - a + (c - b) = c - a by omega] at e
  exact e.symm
theorem ordK_perm {l : List Nd} {node : Int} : (ordK l node).Perm (kidsOf l node) := by
  unfold ordK
  split
  · cases kidsOf l node with
    | nil => exact List.Perm.refl _
    | cons a ks =>
      simp only [List.tail_cons, List.take_succ_cons, List.take_zero]
      exact List.perm_append_comm
  · exact List.Perm.refl _
theorem kids_perm {l : List Nd} {e : Nat} {g : Nat → List Nat} : ∀ (f k : Nat), e ≤ f + k → k ≤ e → (∀ x, k ≤ x → x < e → endOf l x ≤ e) → (∀ x, k ≤ x → x < e → (g x).Perm (lfs l (List.range' x (endOf l x - x)))) → ((kidsR l e f k).flatMap g).Perm (lfs l (List.range' k (e - k)))
  | 0, k, h1, h2, _, _ => by
    obtain rfl : k = e := by omega
    simp [kidsR, lfs]
  | f + 1, k, h1, h2, h3, h4 => by
    unfold kidsR
    by_cases hk : k < e
    · have hg := endOf_gt l k
      have he := h3 k (Nat.le_refl _) hk
      rw [if_pos hk, List.flatMap_cons, range_cut (Nat.le_of_lt hg) he]
      have eq : lfs l (List.range' k (endOf l k - k) ++ List.range' (endOf l k) (e - endOf l k)) = lfs l (List.range' k (endOf l k - k)) ++ lfs l (List.range' (endOf l k) (e - endOf l k)) := List.filter_append ..
      rw [eq]
      exact (h4 k (Nat.le_refl _) hk).append (kids_perm f (endOf l k) (by omega) he (fun x hx hx2 => h3 x (by omega) hx2) fun x hx hx2 => h4 x (by omega) hx2)
    · obtain rfl : k = e := by omega
      rw [if_neg hk]
      simp [lfs]
theorem end_leaf {l : List Nd} (hw : WfN l) {i : Nat} (hi : i < l.length) (h : leafB (kd l i) = true) : endOf l i = i + 1 := by
  unfold endOf
  refine endR_stop (fun hc => ?_) _
  have := hw.leaf i (by omega) h
  omega
theorem lvs_perm {l : List Nd} (hw : WfN l) : ∀ (f i : Nat), i < l.length → l.length ≤ f + i → (lvs l f (i : Int)).Perm (lfs l (List.range' i (endOf l i - i)))
  | 0, i, h, h1 => by omega
  | f + 1, i, hi, hf => by
    have e : (i : Int).toNat = i := rfl
    by_cases h : leafB (kd l i) = true
    · unfold lvs
      rw [if_pos ⟨by omega, h⟩, end_leaf hw hi h, show i + 1 - i = 1 by omega, e]
      unfold lfs
      rw [List.range'_one, List.filter_cons, if_pos h]
      exact List.Perm.refl _
    · unfold lvs
      rw [if_neg (fun hc => h hc.2)]
      have h1 := (ordK_perm (l := l) (node := (i : Int))).flatMap_right (fun k : Nat => lvs l f (k : Int))
      refine h1.trans ?_
      have hg := endOf_gt l i
      rw [range_cut (a := i) (b := i + 1) (c := endOf l i) (by omega) (by omega), show i + 1 - i = 1 by omega, List.range'_one]
      have e2 : lfs l ([i] ++ List.range' (i + 1) (endOf l i - (i + 1))) = lfs l (List.range' (i + 1) (endOf l i - (i + 1))) := by
        unfold lfs
        rw [List.singleton_append, List.filter_cons, if_neg h]
      rw [e2]
      have hfr : kidsFr (i : Int) = i + 1 := if_pos (by omega)
      have hto : kidsTo l (i : Int) = endOf l i := if_pos (by omega)
      unfold kidsOf kidsFrom
      rw [hfr, hto]
      have hle := endOf_le hi
      refine kids_perm _ _ (by omega) (by omega) (fun x hx hx2 => ?_) fun x hx hx2 => lvs_perm hw f x (by omega) (by omega)
      have := end_in (l := l) (node := (i : Int)) (by omega) (by omega) (x := x) (by rw [hfr]; exact hx) (by rw [hto]; exact hx2)
      rwa [hto] at this
/-- Each leaf is read once. -/
theorem leaves_perm {l : List Nd} (hw : WfN l) : (leaves l).Perm (lfs l (List.range' 0 l.length)) := by
  rw [leaves_kids, kidsOf_top]
  unfold kidsFrom
  exact kids_perm (l := l) (e := l.length) (g := fun k : Nat => lvs l l.length (k : Int)) _ 0 (by omega) (by omega) (fun x _ hx => endOf_le hx) fun x _ hx => lvs_perm hw l.length x hx (by omega)
/-- Does a node count at place j (0: gaps, sign + 1: glyphs)? -/
def hit (N : Nat) (j : Nat) (n : Nd) : Bool := decide ((n.kind = 6 ∧ j = 0) ∨ (n.kind = 1 ∧ 0 ≤ n.sign ∧ n.sign < N ∧ (j : Int) = n.sign + 1))
theorem hit_leaf {N j : Nat} {n : Nd} (h : hit N j n = true) : leafB n.kind = true := by
  unfold hit at h
  unfold leafB
  simp at h ⊢
  omega
/-- How many nodes count at place j. -/
def cnt (N j : Nat) (l : List Nd) : Nat := l.countP (hit N j)
theorem range_nd (l : List Nd) : (List.range' 0 l.length).map (nd l) = l := by
  refine List.ext_getElem (by simp) fun i h1 h2 => ?_
  simp [nd_at h2]
theorem cnt_leaves {l : List Nd} (hw : WfN l) (N j : Nat) : (leaves l).countP (fun i => hit N j (nd l i)) = cnt N j l := by
  rw [(leaves_perm hw).countP_eq]
  unfold lfs
  rw [List.countP_filter]
  unfold cnt
  have e : l.countP (hit N j) = ((List.range' 0 l.length).map (nd l)).countP (hit N j) := by rw [range_nd]
  rw [e, List.countP_map]
  refine List.countP_congr fun i hi => ?_
  have hi2 : i < l.length := by simp at hi; omega
  simp only [Function.comp, Bool.and_eq_true]
  constructor
  · exact fun h => h.1
  · exact fun h => ⟨h, by rw [kd_at hi2, ← nd_at hi2]; exact hit_leaf h⟩
theorem leaves_lf {l : List Nd} (hw : WfN l) {i : Nat} (h : i ∈ leaves l) : i < l.length ∧ leafB (kd l i) = true := by
  have := (leaves_perm hw).mem_iff.1 h
  unfold lfs at this
  rw [List.mem_filter] at this
  refine ⟨?_, this.2⟩
  have h2 := this.1
  simp at h2
  omega
theorem lvs_lt {l : List Nd} (hw : WfN l) {f k i : Nat} (hk : k < l.length) (hf : l.length ≤ f + k) (h : i ∈ lvs l f (k : Int)) : i < l.length ∧ leafB (kd l i) = true := by
  have := (lvs_perm hw f k hk hf).mem_iff.1 h
  unfold lfs at this
  rw [List.mem_filter] at this
  refine ⟨?_, this.2⟩
  have h2 := this.1
  have := endOf_le hk
  simp [List.mem_range'_1] at h2
  omega
/-- The marks count as the nodes do. -/
def mhit (N j : Nat) (m : Mk) : Bool := decide ((j : Int) = m.sign + 1)
theorem cnt_marks {ss : List Sg} {l : List Nd} (hv : Val ss l) (j : Nat) : (marks l).countP (mhit ss.length j) = cnt ss.length j l := by
  have hw := hv.good.wf
  rw [← cnt_leaves hw]
  unfold marks
  rw [List.countP_map]
  refine List.countP_congr fun i hi => ?_
  obtain ⟨h1, h2⟩ := leaves_lf hw hi
  have h3 := hv.1 i h1
  unfold ownE at h3
  have e : mkAt l i = mkOf (nd l i) := by rw [mkAt_at h1, nd_at h1]
  have hk : kd l i = (nd l i).kind := by rw [kd_at h1, nd_at h1]
  simp only [Function.comp, e]
  rw [hk] at h2
  generalize nd l i = n at *
  have hz := ndE_zero h3
  unfold leafB at h2
  simp only [Bool.or_eq_true, decide_eq_true_eq] at h2
  unfold mhit hit mkOf
  simp only [decide_eq_true_eq]
  rcases h2 with h2 | h2
  · rw [if_neg (by omega)]
    unfold ndE at h3
    rw [if_neg (by omega), if_neg (by omega), if_pos h2] at h3
    split at h3
    · omega
    · simp only []; omega
  · rw [if_pos h2]
    simp only []
    omega
/-- A mark's sign is -1 or one of the list. -/
theorem marks_sign {ss : List Sg} {l : List Nd} (hv : Val ss l) {m : Mk} (hm : m ∈ marks l) : -1 ≤ m.sign ∧ m.sign < ss.length := by
  have hw := hv.good.wf
  unfold marks at hm
  obtain ⟨i, hi, rfl⟩ := List.mem_map.1 hm
  obtain ⟨h1, h2⟩ := leaves_lf hw hi
  have h3 := hv.1 i h1
  unfold ownE at h3
  have e : mkAt l i = mkOf (nd l i) := by rw [mkAt_at h1, nd_at h1]
  have hk : kd l i = (nd l i).kind := by rw [kd_at h1, nd_at h1]
  rw [e]
  rw [hk] at h2
  generalize nd l i = n at *
  have hz := ndE_zero h3
  unfold leafB at h2
  simp only [Bool.or_eq_true, decide_eq_true_eq] at h2
  unfold mkOf
  rcases h2 with h2 | h2
  · rw [if_neg (by omega)]
    unfold ndE at h3
    rw [if_neg (by omega), if_neg (by omega), if_pos h2] at h3
    split at h3
    · omega
    · simp only []; omega
  · rw [if_pos h2]
    simp only []
    omega
theorem cnt_app (N j : Nat) (x y : List Nd) : cnt N j (x ++ y) = cnt N j x + cnt N j y := List.countP_append ..
theorem cnt_low {N j : Nat} {x : Bool} {n : Nd} : hit N j (lowN x n) = hit N j n := by
  unfold hit lowN
  simp only []
  congr 1
  by_cases h : n.kind = 7
  · rw [if_pos h]
    refine propext ⟨fun h => ?_, fun h => ?_⟩ <;> omega
  · rw [if_neg h]
/-- Plain keeps the leaves. -/
theorem cnt_plain {N j : Nat} {l : List Nd} : ∀ k, k ≤ l.length → cnt N j (plR l k) = cnt N j (l.take k)
  | 0, _ => by simp [plR]
  | k + 1, hk => by
    rw [List.take_add_one, List.getElem?_eq_getElem (by omega), Option.toList_some, cnt_app, ← cnt_plain k (by omega)]
    have e2 : plR l (k + 1) = if dep l k ≠ 0 ∧ kd l k = 7 then plR l k else plR l k ++ [lowN (inH l (k + 1)) (nd l k)] := rfl
    rw [e2]
    split
    · rename_i h
      have h7 := h.2
      rw [kd_at (by omega)] at h7
      have e : cnt N j [l[k]] = 0 := by
        unfold cnt
        rw [List.countP_eq_zero]
        intro a ha
        simp only [List.mem_cons, List.not_mem_nil, or_false] at ha
        subst ha
        unfold hit
        simp
        omega
      omega
    · rw [cnt_app, nd_at (by omega)]
      unfold cnt
      rw [List.countP_cons, List.countP_cons, cnt_low]
theorem cnt_plain_all {N j : Nat} (l : List Nd) : cnt N j (plR l l.length) = cnt N j l := by rw [cnt_plain _ (Nat.le_refl _), List.take_length]
theorem cnt_mirror {N j : Nat} (ss : List Sg) (l : List Nd) : cnt N j (l.map (mirN ss)) = cnt N j l := by
  unfold cnt
  rw [List.countP_map]
  refine List.countP_congr fun n _ => ?_
  obtain ⟨h1, _, h3⟩ := mirN_kind ss n
  simp only [Function.comp]
  unfold hit
  rw [h1, h3]
end Go.Proofs.Ytddbnggficlcfaa

/- PLAIN LAW: Flat of a valid text is valid, has the leaves of the text, changes nothing the second time, and is read as the text is. -/
namespace Go.Proofs.Ytddbnggficlcfaa
theorem ndD_l {x y : List Nd} {d : Int} {i : Nat} (h : i < x.length) : ndD (x ++ y) d i = ndD x d i := by unfold ndD; rw [nd_l h]
theorem ndD_r {x y : List Nd} {d : Int} {i : Nat} : ndD (x ++ y) d (x.length + i) = ndD y d i := by unfold ndD; rw [nd_r]
theorem lvs_up {l : List Nd} {n k : Nat} (hk : k < l.length) (hn : l.length ≤ n) : lvs l n (k : Int) = lvs l l.length (k : Int) := lvs_fuel _ _ k hk (by omega) (by omega)
theorem fltG_l {x y : List Nd} (hx : WfN x) (hy : dep y 0 = 0) {g : Nat} (h : g < x.length) : fltG (x ++ y) g = fltG x g := by
  have e : lvs (x ++ y) (x ++ y).length (g : Int) = lvs x x.length (g : Int) := by rw [lvs_l hy hx.pos _ g h, lvs_up h (by simp)]
  have em : ∀ d : Int, (lvs x x.length (g : Int)).map (ndD (x ++ y) d) = (lvs x x.length (g : Int)).map (ndD x d) := fun d =>
    List.map_congr_left fun i hi => ndD_l (lvs_lt hx h (by omega) hi).1
  unfold fltG
  rw [kd_l h, e, em, em]
theorem fltG_r {x y : List Nd} {g : Nat} (h : g < y.length) : fltG (x ++ y) (x.length + g) = fltG y g := by
  have e : lvs (x ++ y) (x ++ y).length ((x.length + g : Nat) : Int) = (lvs y y.length (g : Int)).map (x.length + ·) := by rw [lvs_r _ g h, lvs_up h (by simp)]
  have em : ∀ d : Int, ((lvs y y.length (g : Int)).map (x.length + ·)).map (ndD (x ++ y) d) = (lvs y y.length (g : Int)).map (ndD y d) := fun d => by
    rw [List.map_map]
    exact List.map_congr_left fun i _ => ndD_r
  unfold fltG
  rw [kd_r, e, em, em, List.length_map]
theorem Val.ringDep {ss : List Sg} {l : List Nd} (h : Val ss l) : ∀ i, i < l.length → kd l i = 5 → dep l i ≤ 0 := fun i hi => (h.2 i hi).2.1
theorem fltL_grp {ss : List Sg} {l : List Nd} (h : Val ss l) : fltL l = (kidsOf l (-1)).flatMap (fltG l) := by
  rw [fltL_eq h.good.wf h.good.deps h.ringDep]
  unfold fltK
  rw [List.take_length]
theorem kids_one {y : List Nd} (ho : One y) : kidsOf y (-1) = [0] := by
  rw [kidsOf_top, kidsFrom_s ho.ne]
  have : endOf y 0 = y.length := by
    have h1 := endOf_le ho.ne
    rcases Nat.eq_or_lt_of_le h1 with h | h
    · exact h
    · have h2 := endOf_at h
      have h3 := ho.below _ (endOf_gt y 0) h
      rw [ho.first] at h2
      omega
  rw [this, kidsFrom_stop (by omega)]
theorem flt_cat {ss : List Sg} {x y : List Nd} (hx : Val ss x) (hy : Val ss y) (ho : One y) : fltL (x ++ y) = fltL x ++ fltG y 0 := by
  rw [fltL_grp (hx.cat hy), fltL_grp hx, kids_top ho.first hx.good.wf.pos, kids_one ho, List.flatMap_append]
  congr 1
  · unfold List.flatMap
    congr 1
    refine List.map_congr_left fun k hk => fltG_l hx.good.wf ho.first ?_
    have := kidsOf_mem (l := x) (node := -1) (by omega) (by omega) hk
    omega
  · rw [List.map_cons, List.map_nil, List.flatMap_cons, List.flatMap_nil, List.append_nil]
    exact fltG_r ho.ne
theorem flt_one {ss : List Sg} {y : List Nd} (hy : Val ss y) (ho : One y) : fltL y = fltG y 0 := by
  rw [fltL_grp hy, kids_one ho, List.flatMap_cons, List.flatMap_nil, List.append_nil]
/-- A list of leaves. -/
def LeafL (ss : List Sg) (L : List Nd) (d : Int) : Prop := ∀ n ∈ L, leafB n.kind = true ∧ n.depth = d ∧ ndE ss.length (evenOf ss n.sign) d n = 0
theorem LeafL.of {ss : List Sg} {y : List Nd} (hy : Val ss y) {ls : List Nat} (h : ∀ i ∈ ls, i < y.length ∧ leafB (kd y i) = true) {d : Int} (h0 : 0 ≤ d) (h4 : d ≤ 4) : LeafL ss (ls.map (ndD y d)) d := fun n hn => by
  obtain ⟨i, hi, rfl⟩ := List.mem_map.1 hn
  obtain ⟨h1, h2⟩ := h i hi
  have h3 := hy.1 i h1
  rw [kd_at h1, ← nd_at h1] at h2
  unfold ownE at h3
  exact ⟨h2, rfl, ndE_dep h3 h0 h4 (Int.le_refl _)⟩
theorem one_leaf {n : Nd} : WfN [n] ↔ n.depth = 0 := by
  constructor
  · exact fun h => h.first
  · intro h
    refine ⟨h, fun i hi => ?_, fun i hi => ?_, fun i hi => ?_⟩
    · simp at hi; subst hi; show 0 ≤ n.depth; omega
    · simp at hi
    · simp at hi
theorem val_leaf {ss : List Sg} {n : Nd} (h : leafB n.kind = true ∧ n.depth = 0 ∧ ndE ss.length (evenOf ss n.sign) 0 n = 0) : Val ss [n] := by
  obtain ⟨h1, h2, h3⟩ := h
  have hk : kidsOf [n] ((0 : Nat) : Int) = [] := leaf_none (one_leaf.2 h2) (by simp) h1
  refine ⟨fun i hi => ?_, fun i hi => ?_⟩
  · simp at hi; subst hi; exact h3
  · simp at hi; subst hi
    have e : kd [n] 0 = n.kind := rfl
    have e2 : dep [n] 0 = n.depth := rfl
    unfold famRs famR
    rw [hk, e, e2, if_pos h1]
    exact ⟨rfl, fun _ => by omega, fun _ h => by omega, fun j hj => by simp at hj⟩
theorem one_one {n : Nd} (h : n.depth = 0) : One [n] := ⟨by simp, h, fun i h1 h2 => by simp at h2; omega⟩
theorem val_leaves {ss : List Sg} : ∀ {L : List Nd}, LeafL ss L 0 → Val ss L
  | [], _ => Val.nil ss
  | n :: L, h => (val_leaf (h n (by simp))).cat (y := L) (val_leaves fun m hm => h m (by simp [hm]))
/-- A ring of leaves. -/
theorem ring_dep {T : List Nd} (h : ∀ n ∈ T, n.depth = 1) : dep (ringN :: T) 0 = 0 ∧ ∀ i, i < T.length → dep (ringN :: T) (i + 1) = 1 := by
  refine ⟨rfl, fun i hi => ?_⟩
  rw [dep_at (by simpa using hi)]
  exact h _ (List.getElem_mem _)
theorem ring_end0 {T : List Nd} (h : ∀ n ∈ T, n.depth = 1) : endOf (ringN :: T) 0 = T.length + 1 := by
  have h1 := endOf_le (l := ringN :: T) (i := 0) (by simp)
  rcases Nat.eq_or_lt_of_le h1 with e | e
  · exact e
  · have h2 := endOf_at e
    have h3 := endOf_gt (ringN :: T) 0
    obtain ⟨j, hj⟩ : ∃ j, endOf (ringN :: T) 0 = j + 1 := ⟨_, (Nat.sub_add_cancel h3).symm⟩
    rw [hj, (ring_dep h).1, (ring_dep h).2 j (by simp at e; omega)] at h2
    omega
theorem ring_end {T : List Nd} (h : ∀ n ∈ T, n.depth = 1) {i : Nat} (hi : i < T.length) : endOf (ringN :: T) (i + 1) = i + 2 := by
  unfold endOf
  rw [(ring_dep h).2 i hi]
  refine endR_stop (fun hc => ?_) _
  have h1 := hc.1
  simp at h1
  rw [(ring_dep h).2 (i + 1) (by omega)] at hc
  omega
theorem ring_kids0 {T : List Nd} (h : ∀ n ∈ T, n.depth = 1) : kidsOf (ringN :: T) 0 = List.range' 1 T.length := by
  have hk : ∀ f k, T.length + 1 ≤ f + (k + 1) → k ≤ T.length → kidsR (ringN :: T) (T.length + 1) f (k + 1) = List.range' (k + 1) (T.length - k) := by
    intro f
    induction f with
    | zero =>
      intro k h1 h2
      obtain rfl : k = T.length := by omega
      simp [kidsR]
    | succ f ih =>
      intro k h1 h2
      unfold kidsR
      by_cases hk : k < T.length
      · rw [if_pos (by omega), ring_end h hk, ih (k + 1) (by omega) (by omega)]
        rw [show T.length - k = T.length - (k + 1) + 1 by omega, List.range'_succ]
      · obtain rfl : k = T.length := by omega
        rw [if_neg (by omega)]
        simp
  have e1 : kidsFr 0 = 1 := rfl
  have e2 : kidsTo (ringN :: T) 0 = T.length + 1 := by unfold kidsTo; rw [if_pos (by omega)]; exact ring_end0 h
  unfold kidsOf kidsFrom
  rw [e1, e2, hk _ 0 (by omega) (by omega), Nat.sub_zero]
theorem ring_wf {T : List Nd} (h : ∀ n ∈ T, n.depth = 1) (hl : ∀ n ∈ T, leafB n.kind = true) : WfN (ringN :: T) := by
  obtain ⟨d0, d1⟩ := ring_dep h
  refine ⟨d0, fun i hi => ?_, fun i hi => ?_, fun i hi hk => ?_⟩
  · cases i with
    | zero => rw [d0]; exact Int.le_refl _
    | succ i => rw [d1 i (by simpa using hi)]; omega
  · rw [d1 i (by simpa using hi)]
    cases i with
    | zero => rw [d0]; omega
    | succ i => rw [d1 i (by simp at hi; omega)]; omega
  · rw [d1 i (by simpa using hi)]
    cases i with
    | zero => exact absurd hk (by rw [show kd (ringN :: T) 0 = 5 from rfl]; decide)
    | succ i => rw [d1 i (by simp at hi; omega)]; omega
theorem kd_ring {T : List Nd} {i : Nat} (hi : i < T.length) : kd (ringN :: T) (i + 1) = T[i].kind := kd_at (l := ringN :: T) (by simpa using hi)
theorem val_ring {ss : List Sg} {T : List Nd} (h : LeafL ss T 1) (h1 : 1 ≤ T.length) (h6 : T.length ≤ 6) : Val ss (ringN :: T) := by
  have hd : ∀ n ∈ T, n.depth = 1 := fun n hn => (h n hn).2.1
  have hl : ∀ n ∈ T, leafB n.kind = true := fun n hn => (h n hn).1
  obtain ⟨d0, d1⟩ := ring_dep hd
  have hw := ring_wf hd hl
  have hkl : ∀ i, i < T.length → leafB (kd (ringN :: T) (i + 1)) = true := fun i hi => by rw [kd_ring hi]; exact hl _ (List.getElem_mem _)
  refine ⟨fun i hi => ?_, fun i hi => ?_⟩
  · cases i with
    | zero => rfl
    | succ i =>
      have hi2 : i < T.length := by simpa using hi
      unfold ownE
      have e : nd (ringN :: T) (i + 1) = T[i] := nd_at (l := ringN :: T) hi
      rw [e]
      have h3 := (h T[i] (List.getElem_mem _)).2.2
      have hm : mostOf (ringN :: T) (i + 1) = 1 := by
        unfold mostOf
        rw [if_neg (by omega), Nat.add_sub_cancel]
        cases i with
        | zero => rw [if_neg (show ¬ leafB (kd (ringN :: T) 0) = true from by rw [show kd (ringN :: T) 0 = 5 from rfl]; decide), d0]; rfl
        | succ i => rw [if_pos (hkl i (by omega)), d1 i (by omega)]
      rw [hm]
      exact h3
  · cases i with
    | zero =>
      have e : kd (ringN :: T) 0 = 5 := rfl
      unfold famRs famR
      rw [show ((0 : Nat) : Int) = 0 from rfl, ring_kids0 hd, e, d0, List.length_range']
      refine ⟨by rw [if_neg (by decide), if_pos rfl]; exact ⟨h1, h6⟩, fun _ => Int.le_refl _, fun h => by omega, fun j hj => ?_⟩
      simp only [List.mem_range'_1] at hj
      obtain ⟨k, rfl⟩ : ∃ k, j = k + 1 := ⟨j - 1, by omega⟩
      have := hkl k (by omega)
      generalize kd (ringN :: T) (k + 1) = m at this
      unfold leafB at this
      simp at this
      rcases this with rfl | rfl <;> rfl
    | succ i =>
      have hi2 : i < T.length := by simpa using hi
      have hk := leaf_none hw hi (hkl i hi2)
      unfold famRs famR
      rw [hk, if_pos (hkl i hi2)]
      have hk2 := hkl i hi2
      generalize kd (ringN :: T) (i + 1) = m at hk2
      unfold leafB at hk2
      simp at hk2
      exact ⟨rfl, fun h => by omega, fun h => by omega, fun j hj => by simp at hj⟩
theorem one_ring {T : List Nd} (h : ∀ n ∈ T, n.depth = 1) : One (ringN :: T) := ⟨by simp, rfl, fun i h1 h2 => by
  obtain ⟨j, rfl⟩ : ∃ j, i = j + 1 := ⟨i - 1, by omega⟩
  rw [(ring_dep h).2 j (by simpa using h2)]
  omega⟩
/-- A node of a valid text has leaves. -/
theorem lvs_ne {ss : List Sg} {l : List Nd} (hv : Val ss l) : ∀ (f i : Nat), i < l.length → l.length ≤ f + i → lvs l f (i : Int) ≠ []
  | 0, i, h, h1 => by omega
  | f + 1, i, hi, hf => by
    unfold lvs
    by_cases h : leafB (kd l i) = true
    · rw [if_pos ⟨by omega, h⟩]; simp
    · rw [if_neg (fun hc => h hc.2)]
      have h1 := (hv.2 i hi).1
      rw [if_neg h] at h1
      have h2 : 0 < (kidsOf l (i : Int)).length := by
        split at h1
        · omega
        · split at h1 <;> omega
      obtain ⟨k, hk⟩ : ∃ k, k ∈ ordK l (i : Int) := by
        obtain ⟨k, hk⟩ := List.exists_mem_of_length_pos h2
        exact ⟨k, ordK_perm.mem_iff.2 hk⟩
      have hm := kidsOf_mem (l := l) (node := (i : Int)) (by omega) (by omega) (ordK_mem hk)
      have := lvs_ne hv f k (by omega) (by omega)
      intro he
      rw [List.flatMap_eq_nil_iff] at he
      exact this (he k hk)
theorem leaves_one {y : List Nd} (ho : One y) : leaves y = lvs y y.length ((0 : Nat) : Int) := by
  rw [leaves_kids, kids_one ho, List.flatMap_cons, List.flatMap_nil, List.append_nil]
section
variable {ss : List Sg} {y : List Nd} (hy : Val ss y) (ho : One y)
include hy ho
theorem grp_lf (d : Int) (h0 : 0 ≤ d) (h4 : d ≤ 4) : LeafL ss ((lvs y y.length ((0 : Nat) : Int)).map (ndD y d)) d := LeafL.of hy (fun i hi => lvs_lt hy.good.wf ho.ne (by omega) hi) h0 h4
theorem grp_pos : 1 ≤ (lvs y y.length ((0 : Nat) : Int)).length := List.length_pos_iff.2 (lvs_ne hy y.length 0 ho.ne (by omega))
theorem val_fltG : Val ss (fltG y 0) := by
  unfold fltG
  split
  · rename_i h
    exact val_ring (grp_lf hy ho 1 (by omega) (by omega)) (by rw [List.length_map]; exact grp_pos hy ho) (by rw [List.length_map]; exact h.2)
  · exact val_leaves (grp_lf hy ho 0 (by omega) (by omega))
theorem cnt_grp (N j : Nat) (d : Int) : cnt N j ((lvs y y.length ((0 : Nat) : Int)).map (ndD y d)) = cnt N j y := by
  rw [← leaves_one ho, ← cnt_leaves hy.good.wf]
  unfold cnt
  rw [List.countP_map]
  rfl
theorem cnt_fltG (N j : Nat) : cnt N j (fltG y 0) = cnt N j y := by
  unfold fltG
  split
  · have e : cnt N j (ringN :: (lvs y y.length ((0 : Nat) : Int)).map (ndD y 1)) = cnt N j ((lvs y y.length ((0 : Nat) : Int)).map (ndD y 1)) := by
      unfold cnt
      rw [List.countP_cons]
      have : hit N j ringN = false := by unfold hit ringN; simp
      rw [this]
      rfl
    rw [e]
    exact cnt_grp hy ho N j 1
  · exact cnt_grp hy ho N j 0
theorem len_fltG : (fltG y 0).length ≤ y.length := by
  have hp := (leaves_perm hy.good.wf).length_eq
  rw [leaves_one ho] at hp
  have hle : (lfs y (List.range' 0 y.length)).length ≤ y.length := by
    have := List.length_filter_le (fun i => leafB (kd y i)) (List.range' 0 y.length)
    rw [List.length_range'] at this
    exact this
  unfold fltG
  split
  · rename_i h
    rw [List.length_cons, List.length_map, hp]
    obtain ⟨n, hn⟩ : ∃ n, y.length = n + 1 := ⟨_, (Nat.sub_add_cancel ho.ne).symm⟩
    rw [hn, List.range'_succ]
    unfold lfs
    rw [List.filter_cons, h.1, if_neg (by decide)]
    have := List.length_filter_le (fun i => leafB (kd y i)) (List.range' (0 + 1) n)
    rw [List.length_range'] at this
    omega
  · rw [List.length_map, hp]
    exact hle
end
theorem Val.flat {ss : List Sg} {l : List Nd} (h : Val ss l) : Val ss (fltL l) :=
  h.groups (M := fun l => Val ss (fltL l)) (by rw [fltL_grp (Val.nil ss)]; exact Val.nil ss) fun x y hx hy ho ih => by
    rw [flt_cat hx hy ho]
    exact ih.cat (val_fltG hy ho)
theorem cnt_flat {ss : List Sg} {l : List Nd} (h : Val ss l) (N j : Nat) : cnt N j (fltL l) = cnt N j l :=
  h.groups (M := fun l => cnt N j (fltL l) = cnt N j l) (by rw [fltL_grp (Val.nil ss)]; rfl) fun x y hx hy ho ih => by
    rw [flt_cat hx hy ho, cnt_app, cnt_app, ih, cnt_fltG hy ho]
theorem len_flat {ss : List Sg} {l : List Nd} (h : Val ss l) : (fltL l).length ≤ l.length :=
  h.groups (M := fun l => (fltL l).length ≤ l.length) (by rw [fltL_grp (Val.nil ss)]; exact Nat.le_refl _) fun x y hx hy ho ih => by
    rw [flt_cat hx hy ho, List.length_append, List.length_append]
    have := len_fltG hy ho
    omega
/-- The leaves of a ring of leaves; of leaves. -/
theorem lvs_ring {T : List Nd} (h : ∀ n ∈ T, n.depth = 1) (hl : ∀ n ∈ T, leafB n.kind = true) (f : Nat) : lvs (ringN :: T) (f + 2) 0 = List.range' 1 T.length := by
  have hkl : ∀ i, i < T.length → leafB (kd (ringN :: T) (i + 1)) = true := fun i hi => by rw [kd_ring hi]; exact hl _ (List.getElem_mem _)
  have e : kd (ringN :: T) (0 : Int).toNat = 5 := rfl
  have e2 : ordK (ringN :: T) 0 = List.range' 1 T.length := by
    unfold ordK
    rw [e, if_neg (fun h => by have := h.2; omega), ring_kids0 h]
  rw [lvs, e, if_neg (fun h => absurd h.2 (by decide)), e2]
  have : ∀ k ∈ List.range' 1 T.length, lvs (ringN :: T) (f + 1) (k : Int) = [k] := fun k hk => by
    simp only [List.mem_range'_1] at hk
    obtain ⟨j, rfl⟩ : ∃ j, k = j + 1 := ⟨k - 1, by omega⟩
    rw [lvs, if_pos ⟨by omega, hkl j (by omega)⟩]
    rfl
  unfold List.flatMap
  rw [List.map_congr_left this]
  induction List.range' 1 T.length with
  | nil => rfl
  | cons a l ih => rw [List.map_cons, List.flatten_cons, ih]; rfl
theorem fltG_ring {ss : List Sg} {T : List Nd} (h : LeafL ss T 1) (h1 : 1 ≤ T.length) (h6 : T.length ≤ 6) : fltG (ringN :: T) 0 = ringN :: T := by
  have hd : ∀ n ∈ T, n.depth = 1 := fun n hn => (h n hn).2.1
  have hl : ∀ n ∈ T, leafB n.kind = true := fun n hn => (h n hn).1
  have e := lvs_ring hd hl (T.length - 1)
  have hn : T.length - 1 + 2 = (ringN :: T).length := by simp; omega
  rw [hn] at e
  unfold fltG
  rw [show ((0 : Nat) : Int) = 0 from rfl, e, List.length_range', if_pos ⟨rfl, h6⟩]
  congr 1
  refine List.ext_getElem (by simp) fun i a b => ?_
  rw [List.getElem_map, List.getElem_range']
  unfold ndD
  have e2 : nd (ringN :: T) (1 + 1 * i) = T[i] := by rw [Nat.one_mul, Nat.add_comm]; exact nd_at (l := ringN :: T) (by simpa using b)
  rw [e2]
  have := hd T[i] (List.getElem_mem _)
  rw [← this]
theorem fltG_leaf {n : Nd} (h : leafB n.kind = true) (h0 : n.depth = 0) : fltG [n] 0 = [n] := by
  have hk : kd [n] 0 = n.kind := rfl
  have e : lvs [n] ([n] : List Nd).length ((0 : Nat) : Int) = [0] := by
    show lvs [n] 1 _ = _
    rw [lvs, if_pos ⟨by omega, h⟩]
    rfl
  unfold fltG
  rw [if_neg (fun hc => ?_), e]
  · show [{ n with depth := 0 }] = [n]
    rw [← h0]
  · have h1 := hc.1
    rw [hk] at h1
    rw [h1] at h
    exact absurd h (by decide)
theorem flt_leaves {ss : List Sg} : ∀ {x : List Nd} (L : List Nd), Val ss x → LeafL ss L 0 → fltL (x ++ L) = fltL x ++ L
  | x, [], _, _ => by rw [List.append_nil, List.append_nil]
  | x, n :: L, hx, h => by
    have hn := h n (by simp)
    have hv := val_leaf hn
    have e : x ++ n :: L = (x ++ [n]) ++ L := by simp
    rw [e, flt_leaves L (hx.cat hv) fun m hm => h m (by simp [hm]), flt_cat hx hv (one_one hn.2.1), fltG_leaf hn.1 hn.2.1]
    simp
/-- Flat changes nothing the second time. -/
theorem flt_twice {ss : List Sg} {l : List Nd} (h : Val ss l) : fltL (fltL l) = fltL l :=
  h.groups (M := fun l => fltL (fltL l) = fltL l) (by rw [fltL_grp (Val.nil ss)]; exact fltL_grp (Val.nil ss)) fun x y hx hy ho ih => by
    rw [flt_cat hx hy ho]
    by_cases h6 : kd y 0 = 5 ∧ (lvs y y.length ((0 : Nat) : Int)).length ≤ 6
    · have e : fltG y 0 = ringN :: (lvs y y.length ((0 : Nat) : Int)).map (ndD y 1) := if_pos h6
      have hL := grp_lf hy ho 1 (by omega) (by omega)
      have hp : 1 ≤ ((lvs y y.length ((0 : Nat) : Int)).map (ndD y 1)).length := by rw [List.length_map]; exact grp_pos hy ho
      have hq : ((lvs y y.length ((0 : Nat) : Int)).map (ndD y 1)).length ≤ 6 := by rw [List.length_map]; exact h6.2
      rw [e, flt_cat hx.flat (val_ring hL hp hq) (one_ring fun n hn => (hL n hn).2.1), ih, fltG_ring hL hp hq]
    · have e : fltG y 0 = (lvs y y.length ((0 : Nat) : Int)).map (ndD y 0) := if_neg h6
      rw [e, flt_leaves _ hx.flat (grp_lf hy ho 0 (by omega) (by omega)), ih]
/-- The marks of Flat. -/
theorem mk_ndD (l : List Nd) (d : Int) {i : Nat} (h : i < l.length) : mkOf (ndD l d i) = mkAt l i := by
  rw [mkAt_at h, ← nd_at h]
  rfl
theorem marks_leaf {n : Nd} (h : leafB n.kind = true) (h0 : n.depth = 0) : marks [n] = [mkOf n] := by
  have hy := one_one h0
  have e : leaves [n] = [0] := by
    rw [leaves_kids, kids_one hy, List.flatMap_cons, List.flatMap_nil, List.append_nil]
    show lvs [n] 1 _ = _
    rw [lvs, if_pos ⟨by omega, h⟩]
    rfl
  unfold marks
  rw [e]
  rfl
theorem marks_leaves {ss : List Sg} : ∀ {L : List Nd}, LeafL ss L 0 → marks L = L.map mkOf
  | [], _ => rfl
  | n :: L, h => by
    have hn := h n (by simp)
    have hL : LeafL ss L 0 := fun m hm => h m (by simp [hm])
    have e : n :: L = [n] ++ L := rfl
    rw [e, marks_cat (val_leaves hL).good.wf.first (val_leaf hn).good.wf.pos, marks_leaf hn.1 hn.2.1, marks_leaves hL]
    rfl
theorem marks_ring {T : List Nd} (h : ∀ n ∈ T, n.depth = 1) (hl : ∀ n ∈ T, leafB n.kind = true) (h1 : 1 ≤ T.length) : marks (ringN :: T) = T.map mkOf := by
  have e := lvs_ring h hl (T.length - 1)
  have hn : T.length - 1 + 2 = (ringN :: T).length := by simp; omega
  rw [hn] at e
  have e2 : leaves (ringN :: T) = List.range' 1 T.length := by
    rw [leaves_kids, kids_one (one_ring h), List.flatMap_cons, List.flatMap_nil, List.append_nil]
    exact e
  unfold marks
  rw [e2]
  refine List.ext_getElem (by simp) fun i a b => ?_
  rw [List.getElem_map, List.getElem_map, List.getElem_range']
  have hi : i < T.length := by simpa using b
  have e3 : mkAt (ringN :: T) (1 + 1 * i) = mkOf (ringN :: T)[i + 1] := by rw [Nat.one_mul, Nat.add_comm]; exact mkAt_at (by simpa using hi)
  rw [e3]
  rfl
theorem marks_grp {ss : List Sg} {y : List Nd} (hy : Val ss y) (ho : One y) (d : Int) : ((lvs y y.length ((0 : Nat) : Int)).map (ndD y d)).map mkOf = marks y := by
  unfold marks
  rw [leaves_one ho, List.map_map]
  exact List.map_congr_left fun i hi => mk_ndD y d (lvs_lt hy.good.wf ho.ne (by omega) hi).1
theorem marks_fltG {ss : List Sg} {y : List Nd} (hy : Val ss y) (ho : One y) : marks (fltG y 0) = marks y := by
  have h1 := grp_lf hy ho 1 (by omega) (by omega)
  have h0 := grp_lf hy ho 0 (by omega) (by omega)
  unfold fltG
  split
  · rw [marks_ring (fun n hn => (h1 n hn).2.1) (fun n hn => (h1 n hn).1) (by rw [List.length_map]; exact grp_pos hy ho), marks_grp hy ho]
  · rw [marks_leaves h0, marks_grp hy ho]
theorem marks_flat {ss : List Sg} {l : List Nd} (h : Val ss l) : marks (fltL l) = marks l :=
  h.groups (M := fun l => marks (fltL l) = marks l) (by rw [fltL_grp (Val.nil ss)]; rfl) fun x y hx hy ho ih => by
    rw [flt_cat hx hy ho, marks_cat (val_fltG hy ho).good.wf.first hx.flat.good.wf.pos, marks_cat ho.first hx.good.wf.pos, ih, marks_fltG hy ho]
end Go.Proofs.Ytddbnggficlcfaa
