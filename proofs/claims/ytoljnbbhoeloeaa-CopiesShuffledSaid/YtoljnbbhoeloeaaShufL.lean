/- THE PLAIN LAW OF CopiesShuffled: turned blocks have as many rows; the lines of a row have all signs. -/
import Derived.Test.YtoljnbbhoeloeaaRowsW
namespace Go.Proofs.Ytoljnbbhoeloeaa
open Go.RowKit
theorem sub_len {α : Type} [DecidableEq α] : ∀ {l1 l2 : List α}, l1.Nodup → (∀ x ∈ l1, x ∈ l2) → l1.length ≤ l2.length ∧ (l2.length ≤ l1.length → l1.Perm l2)
  | [], l2, _, _ => ⟨Nat.zero_le _, fun h => by
    rw [List.eq_nil_of_length_eq_zero (Nat.le_zero.1 h)]⟩
  | a :: l1, l2, hn, hs => by
    obtain ⟨hna, hn1⟩ := List.nodup_cons.1 hn
    have ha : a ∈ l2 := hs a (by simp)
    have h1 := sub_len (l2 := l2.erase a) hn1 fun x hx => (List.mem_erase_of_ne (fun e => hna (by rw [← e]; exact hx))).2 (hs x (by simp [hx]))
    have h2 := List.length_erase_of_mem ha
    have h3 := List.length_pos_of_mem ha
    refine ⟨by rw [List.length_cons]; omega, fun h => ?_⟩
    rw [List.length_cons] at h
    exact ((h1.2 (by omega)).cons a).trans (List.perm_cons_erase ha).symm
def rot (bs : List Bk) (t : Nat) : List Bk := bs.drop t ++ bs.take t
def phi (N t i : Nat) : Nat := if t ≤ i then i - t else i + (N - t)
theorem rot_len {bs : List Bk} {t : Nat} : (rot bs t).length = bs.length := by
  unfold rot
  rw [List.length_append, List.length_drop, List.length_take]
  omega
theorem phi_lt {N t i : Nat} (ht : t ≤ N) (hi : i < N) : phi N t i < N := by
  unfold phi
  split <;> omega
theorem phi_inj {N t a b : Nat} (ht : t ≤ N) (ha : a < N) (hb : b < N) (h : phi N t a = phi N t b) : a = b := by
  unfold phi at h
  split at h <;> split at h <;> omega
theorem rot_get {bs : List Bk} {t i : Nat} (ht : t ≤ bs.length) (hi : i < bs.length) : (rot bs t)[phi bs.length t i]? = bs[i]? := by
  unfold rot phi
  by_cases h : t ≤ i
  · rw [if_pos h, List.getElem?_append_left (by rw [List.length_drop]; omega), List.getElem?_drop]
    congr 1
    omega
  · rw [if_neg h, List.getElem?_append_right (by rw [List.length_drop]; omega), List.length_drop, List.getElem?_take, if_pos (by omega)]
    congr 1
    omega
theorem rot_mem {bs : List Bk} {t : Nat} {b : Bk} (h : b ∈ rot bs t) : b ∈ bs := by
  rcases List.mem_append.1 h with h | h
  · exact List.mem_of_mem_drop h
  · exact List.mem_of_mem_take h
theorem rot_err {bs : List Bk} {t : Nat} (h0 : blksErr bs = 0) : blksErr (rot bs t) = 0 := by
  have h8 := (blks_ok h0).1
  refine blks_good (by rw [rot_len]; exact h8) fun j hj _ => ?_
  have hm := rot_mem (List.getElem_mem hj)
  have hr : rows0 (rot bs t) = rows0 bs := by
    rw [rows0_eq (by omega)]
    exact (blks_rows h0 (rot_mem (List.getElem_mem _))).1
  rw [hr]
  obtain ⟨i, hi, e⟩ := List.getElem_of_mem hm
  rw [← e]
  exact (blks_ok h0).2 i hi hi
theorem rot_fit {bs : List Bk} {t a b : Nat} (ht : t ≤ bs.length) (ha : a < bs.length) (hb : b < bs.length) : fitN (rot bs t) (phi bs.length t a) (phi bs.length t b) = fitN bs a b := by
  unfold fitN bR bL
  rw [rot_get ht ha, rot_get ht hb]
theorem all_of {bs : List Bk} {x : List Nat} : x ∈ allRows bs ↔ x.length = bs.length ∧ ∀ i, i < x.length → stepOk (fitN bs) bs.length x i := by
  unfold allRows
  rw [mem_prm]
  simp
theorem map_get {x : List Nat} {f : Nat → Nat} {i : Nat} (hi : i < x.length) : (x.map f).getD i 0 = f (x.getD i 0) := by
  simp [List.getD, hi]
theorem mem_lt {bs : List Bk} {x : List Nat} (h : x ∈ allRows bs) {y : Nat} (hy : y ∈ x) : y < bs.length := by
  obtain ⟨i, hi, rfl⟩ := List.getElem_of_mem hy
  have := ((all_of.1 h).2 i hi).1
  rwa [List.getD, List.getElem?_eq_getElem hi] at this
theorem rot_row {bs : List Bk} {t : Nat} (ht : t ≤ bs.length) {x : List Nat} (h : x ∈ allRows bs) : x.map (phi bs.length t) ∈ allRows (rot bs t) := by
  obtain ⟨h1, h2⟩ := all_of.1 h
  rw [all_of, List.length_map, rot_len]
  refine ⟨h1, fun i hi => ?_⟩
  obtain ⟨s1, s2⟩ := h2 i hi
  unfold stepOk
  rw [map_get hi]
  refine ⟨phi_lt ht s1, ?_⟩
  unfold okNx at s2 ⊢
  simp only [Bool.and_eq_true, Bool.or_eq_true] at s2 ⊢
  obtain ⟨s2, s3⟩ := s2
  rw [← List.map_take]
  refine ⟨?_, ?_⟩
  · rcases s2 with s2 | s2
    · left
      rw [List.isEmpty_iff] at s2 ⊢
      rw [s2]; rfl
    · by_cases hi0 : i = 0
      · left; subst hi0; rfl
      · right
        obtain ⟨j, rfl⟩ : ∃ j, i = j + 1 := ⟨i - 1, by omega⟩
        rw [last_take (by omega)] at s2
        rw [List.map_take, last_take (by rw [List.length_map]; omega), map_get (by omega), rot_fit ht (h2 j (by omega)).1 s1]
        exact s2
  · simp only [Bool.not_eq_true', ← Bool.not_eq_true] at s3 ⊢
    intro hc
    refine s3 ?_
    rw [List.contains_iff_mem] at hc ⊢
    obtain ⟨y, hy, e⟩ := List.mem_map.1 hc
    have hyl := mem_lt h (List.mem_of_mem_take hy)
    rw [← phi_inj ht hyl s1 e]
    exact hy
theorem all_nodup {bs : List Bk} : (allRows bs).Nodup := by
  refine (prm_sorted (fit := fitN bs) (N := bs.length) bs.length []).imp fun {a b} h e => ?_
  subst e
  have := bef_asym h
  rw [h] at this
  cases this
theorem rot_le {bs : List Bk} {t : Nat} (ht : t ≤ bs.length) : (allRows bs).length ≤ (allRows (rot bs t)).length := by
  have h := (sub_len (l1 := (allRows bs).map fun x => x.map (phi bs.length t)) (l2 := allRows (rot bs t)) ?_ fun x hx => ?_).1
  · rwa [List.length_map] at h
  · rw [List.Nodup, List.pairwise_map]
    refine List.Pairwise.imp_of_mem (fun {a b} ha hb hne e => hne ?_) (all_nodup (bs := bs))
    have hla := (all_of.1 ha).1
    have hlb := (all_of.1 hb).1
    refine List.ext_getElem (by omega) fun i h1 h2 => ?_
    have he : (a.map (phi bs.length t))[i]? = (b.map (phi bs.length t))[i]? := by rw [e]
    simp [h1, h2] at he
    exact phi_inj ht (mem_lt ha (List.getElem_mem h1)) (mem_lt hb (List.getElem_mem h2)) he
  · obtain ⟨y, hy, rfl⟩ := List.mem_map.1 hx
    exact rot_row ht hy
theorem rot_rot {bs : List Bk} {t : Nat} (ht : t ≤ bs.length) : rot (rot bs t) (bs.length - t) = bs := by
  have hd : (bs.drop t).length = bs.length - t := List.length_drop
  unfold rot
  rw [← hd, List.drop_left, List.take_left, List.take_append_drop]
theorem rot_cnt {bs : List Bk} {t : Nat} (h0 : blksErr bs = 0) (ht : t ≤ bs.length) : cntRows (rot bs t) = cntRows bs := by
  have e1 : cntRows (rot bs t) = (allRows (rot bs t)).length := if_pos (rot_err h0)
  have e2 : cntRows bs = (allRows bs).length := if_pos h0
  rw [e1, e2]
  refine Nat.le_antisymm ?_ (rot_le ht)
  have := rot_le (bs := rot bs t) (t := bs.length - t) (by rw [rot_len]; omega)
  rwa [rot_rot ht] at this
/-- Signs of the first lines. -/
def lenTo (ls : List Ln) (k : Nat) : Nat := ((ls.take k).map fun t => t.2.2.length).sum
theorem lenTo_0 {ls : List Ln} : lenTo ls 0 = 0 := rfl
theorem lenTo_s {ls : List Ln} {k : Nat} (hk : k < ls.length) : lenTo ls (k + 1) = lenTo ls k + ls[k].2.2.length := by
  unfold lenTo
  rw [List.take_add_one, List.getElem?_eq_getElem hk, Option.toList_some, List.map_append, List.sum_append]
  simp
theorem lenTo_le {ls : List Ln} (h : ∀ t ∈ ls, t.2.2.length ≤ 60) : ∀ k, lenTo ls k ≤ k * 60
  | 0 => Nat.le_refl _
  | k + 1 => by
    have ih := lenTo_le h k
    by_cases hk : k < ls.length
    · rw [lenTo_s hk]
      have := h _ (List.getElem_mem hk)
      omega
    · have e : lenTo ls (k + 1) = lenTo ls k := by
        unfold lenTo
        rw [List.take_of_length_le (by omega), List.take_of_length_le (by omega)]
      omega
def sgnTo (bs : List Bk) (i : Nat) : Nat := ((bs.take i).map fun b => lenTo b.rows b.rows.length).sum
theorem sgnTo_0 {bs : List Bk} : sgnTo bs 0 = 0 := rfl
theorem sgnTo_s {bs : List Bk} {i : Nat} (hi : i < bs.length) : sgnTo bs (i + 1) = sgnTo bs i + lenTo bs[i].rows bs[i].rows.length := by
  unfold sgnTo
  rw [List.take_add_one, List.getElem?_eq_getElem hi, Option.toList_some, List.map_append, List.sum_append]
  simp
theorem blk_le {bs : List Bk} (h0 : blksErr bs = 0) {b : Bk} (hb : b ∈ bs) (k : Nat) (hk : k ≤ b.rows.length) : lenTo b.rows k ≤ 720 := by
  obtain ⟨_, h1, h2⟩ := blks_rows h0 hb
  have := lenTo_le h2 k
  omega
theorem sgnTo_le {bs : List Bk} (h0 : blksErr bs = 0) : ∀ i, i ≤ bs.length → sgnTo bs i ≤ i * 720
  | 0, _ => Nat.le_refl _
  | i + 1, hi => by
    have ih := sgnTo_le h0 i (by omega)
    rw [sgnTo_s (by omega)]
    have := blk_le h0 (List.getElem_mem (show i < bs.length by omega)) _ (Nat.le_refl _)
    omega
theorem sum_swap (f : Nat → Nat → Nat) (x : List Nat) : ∀ R : Nat, ((List.range R).map fun r => (x.map fun i => f i r).sum).sum = (x.map fun i => ((List.range R).map fun r => f i r).sum).sum
  | 0 => by
    induction x with
    | nil => rfl
    | cons a x ih =>
      rw [List.map_cons, List.sum_cons, ← ih]
      rfl
  | R + 1 => by
    rw [List.range_succ, List.map_append, List.sum_append, sum_swap f x R]
    simp only [List.map_cons, List.map_nil, List.sum_cons, List.sum_nil, Nat.add_zero, List.map_append, List.sum_append]
    induction x with
    | nil => rfl
    | cons a x ih => simp only [List.map_cons, List.sum_cons]; omega
theorem row_perm {bs : List Bk} {x : List Nat} (h : x ∈ allRows bs) : x.Perm (List.range bs.length) := by
  obtain ⟨h1, h2⟩ := all_of.1 h
  refine (sub_len ?_ fun y hy => List.mem_range.2 (mem_lt h hy)).2 (by rw [List.length_range]; omega)
  rw [List.Nodup, List.pairwise_iff_getElem]
  intro i j hi hj hij e
  have h3 := (h2 j hj).2
  unfold okNx at h3
  simp only [Bool.and_eq_true, Bool.not_eq_true', ← Bool.not_eq_true] at h3
  refine h3.2 (List.contains_iff_mem.2 ?_)
  rw [List.getD, List.getElem?_eq_getElem hj, Option.getD_some, ← e]
  exact List.mem_take_iff_getElem.2 ⟨i, by omega, rfl⟩
theorem blk_sum {bs : List Bk} {i : Nat} (hi : i < bs.length) : ((List.range bs[i].rows.length).map fun r => (rAt bs i r).length).sum = lenTo bs[i].rows bs[i].rows.length := by
  unfold lenTo
  rw [List.take_length]
  congr 1
  refine List.ext_getElem (by simp) fun k h1 h2 => ?_
  simp only [List.getElem_map, List.getElem_range]
  rw [rAt_of hi]
theorem all_sum {bs : List Bk} : ((List.range bs.length).map fun i => match bs[i]? with
    | some b => lenTo b.rows b.rows.length
    | none => 0).sum = sgnTo bs bs.length := by
  unfold sgnTo
  rw [List.take_length]
  congr 1
  refine List.ext_getElem (by simp) fun k h1 h2 => ?_
  have hk : k < bs.length := by simpa using h2
  simp only [List.getElem_map, List.getElem_range]
  rw [List.getElem?_eq_getElem hk]
/-- The lines of a row have all signs of the blocks. -/
theorem shuf_sum {bs : List Bk} (h0 : blksErr bs = 0) {x : List Nat} (h : x ∈ allRows bs) {es : List Ln} (hs : sig es = (List.range (rows0 bs)).map fun r => catTo bs (nz x) r (nz x).length) : lenTo es es.length = sgnTo bs bs.length := by
  have e1 : lenTo es es.length = ((sig es).map List.length).sum := by
    unfold lenTo sig
    rw [List.take_length, List.map_map]
    rfl
  rw [e1, hs, List.map_map]
  have e2 : (List.length ∘ fun r => catTo bs (nz x) r (nz x).length) = fun r => (x.map fun i => (rAt bs i r).length).sum := by
    funext r
    simp only [Function.comp, catTo]
    rw [List.take_length, List.length_flatMap]
    unfold nz
    rw [List.map_map]
    rfl
  rw [e2, sum_swap (fun i r => (rAt bs i r).length)]
  have e3 : (x.map fun i => ((List.range (rows0 bs)).map fun r => (rAt bs i r).length).sum) = x.map fun i => match bs[i]? with
      | some b => lenTo b.rows b.rows.length
      | none => 0 := by
    refine List.map_congr_left fun i hi => ?_
    have hil := mem_lt h hi
    have hb := (blks_rows h0 (List.getElem_mem hil)).1
    rw [List.getElem?_eq_getElem hil, ← hb]
    exact blk_sum hil
  rw [e3, ((row_perm h).map _).sum_nat, all_sum]
theorem lin_of_row {bs : List Bk} (h0 : blksErr bs = 0) {row : List Int} (h : isRowB bs row = true) : linErr bs row = 2 ∨ linErr bs row = 0 ∧ linOut bs row = (List.range (rows0 bs)).map fun r => catTo bs row r row.length := by
  unfold isRowB at h
  simp only [Bool.and_eq_true, decide_eq_true_eq] at h
  obtain ⟨⟨h1, h2⟩, h3⟩ := h
  cases hs : shrtTo bs row (rows0 bs) with
  | false => exact .inl (lin_e4 h0 h2 h3 hs).1
  | true => exact .inr (lin_e5 h0 h2 h3 hs)
/-- What is known of the lines of a row that Join lists. -/
theorem shuf_row {bs : List Bk} (h0 : blksErr bs = 0) {row : List Int} (h : isRowB bs row = true) {es : List Ln} (hs : sig es = linOut bs row) : linErr bs row = 2 ∨ linErr bs row = 0 ∧ es.length = rows0 bs ∧ lenTo es es.length = sgnTo bs bs.length := by
  rcases lin_of_row h0 h with e | ⟨e1, e2⟩
  · exact .inl e
  · right
    rw [e2] at hs
    refine ⟨e1, by have := congrArg List.length hs; simpa [sig] using this, ?_⟩
    obtain ⟨x, rfl, hx⟩ := row_nz h
    exact shuf_sum h0 hx hs
end Go.Proofs.Ytoljnbbhoeloeaa
