/- PLAIN LAW: what cells can read; positions within them. No program in sight. -/
import Derived.Test.YtaoddenadfmdbaaBase
namespace Go.Proofs.Ytaoddenadfmdbaa
/-- A cell: how many signs it may have, which ones, and where they lie. -/
structure Cl where
  mn : Int
  mx : Int
  signs : List Int
  sa : Option Addr
  sc : Nat
instance : Inhabited Cl := ⟨⟨0, 0, [], none, 0⟩⟩
def cl (cs : List Cl) (i : Nat) : Cl := cs.getD i default
theorem cl_at {cs : List Cl} {i : Nat} (h : i < cs.length) : cl cs i = cs[i] := by unfold cl; rw [List.getD_eq_getElem?_getD, List.getElem?_eq_getElem h]; rfl
/-- Does a cell allow a sign? -/
def alw (c : Cl) (s : Int) : Bool := decide (c.signs.length = 0) || c.signs.contains s
/-- From the cell i on, behind k signs of it, the cells can have the line S. -/
inductive Acc (cs : List Cl) : Nat → Nat → List Int → Prop
  | fin : Acc cs cs.length 0 []
  | eps {i k : Nat} {S : List Int} (hi : i < cs.length) (hk : (cl cs i).mn ≤ (k : Int)) (h : Acc cs (i + 1) 0 S) : Acc cs i k S
  | sgn {i k : Nat} {a : Int} {S : List Int} (hi : i < cs.length) (hk : (k : Int) < (cl cs i).mx) (ha : alw (cl cs i) a = true) (h : Acc cs i (k + 1) S) : Acc cs i k (a :: S)
/-- The positions of the first i cells. -/
def posTo (cs : List Cl) : Nat → List (Nat × Nat)
  | 0 => []
  | i + 1 => posTo cs i ++ (List.range ((cl cs i).mx.toNat + 1)).map fun k => (i, k)
def posL (cs : List Cl) : List (Nat × Nat) := posTo cs cs.length ++ [(cs.length, 0)]
/-- The number of a position. -/
def num (cs : List Cl) (i k : Nat) : Nat := (posTo cs i).length + k
theorem posTo_len_s (cs : List Cl) (i : Nat) : (posTo cs (i + 1)).length = (posTo cs i).length + ((cl cs i).mx.toNat + 1) := by
  rw [posTo, List.length_append, List.length_map, List.length_range]
theorem posTo_mono (cs : List Cl) {i j : Nat} (h : i ≤ j) : (posTo cs i).length ≤ (posTo cs j).length := by
  induction h with
  | refl => exact Nat.le_refl _
  | step _ ih => rw [posTo_len_s]; omega
theorem posTo_get (cs : List Cl) {i k : Nat} (hk : k ≤ (cl cs i).mx.toNat) : ∀ j, i < j → (posTo cs j)[num cs i k]? = some (i, k)
  | 0, h => by omega
  | j + 1, h => by
    rcases Nat.lt_or_ge i j with h1 | h1
    · have ih := posTo_get cs hk j h1
      rw [posTo, List.getElem?_append_left (List.getElem?_eq_some_iff.1 ih).1]
      exact ih
    · obtain rfl : i = j := by omega
      unfold num
      rw [posTo, List.getElem?_append_right (by omega), Nat.add_sub_cancel_left, List.getElem?_map, List.getElem?_range (by omega)]
      rfl
theorem posL_get {cs : List Cl} {i k : Nat} (hi : i < cs.length) (hk : k ≤ (cl cs i).mx.toNat) : (posL cs)[num cs i k]? = some (i, k) := by
  have h := posTo_get cs hk cs.length hi
  unfold posL
  rw [List.getElem?_append_left (List.getElem?_eq_some_iff.1 h).1]
  exact h
theorem posL_last (cs : List Cl) : (posL cs)[num cs cs.length 0]? = some (cs.length, 0) := by
  unfold posL num
  rw [List.getElem?_append_right (by omega)]
  simp
theorem posL_len (cs : List Cl) : (posL cs).length = num cs cs.length 0 + 1 := by unfold posL num; simp
/-- A position of the cells. -/
def PosOk (cs : List Cl) (i k : Nat) : Prop := (i < cs.length ∧ k ≤ (cl cs i).mx.toNat) ∨ (i = cs.length ∧ k = 0)
theorem pos_get {cs : List Cl} {i k : Nat} (h : PosOk cs i k) : (posL cs)[num cs i k]? = some (i, k) := by
  rcases h with ⟨h1, h2⟩ | ⟨rfl, rfl⟩
  · exact posL_get h1 h2
  · exact posL_last cs
theorem num_lt {cs : List Cl} {i k : Nat} (h : PosOk cs i k) : num cs i k < (posL cs).length := (List.getElem?_eq_some_iff.1 (pos_get h)).1
theorem posTo_mem {cs : List Cl} {p : Nat × Nat} : ∀ j, p ∈ posTo cs j → p.1 < j ∧ p.2 ≤ (cl cs p.1).mx.toNat
  | 0, h => by cases h
  | j + 1, h => by
    rw [posTo, List.mem_append] at h
    rcases h with h | h
    · have := posTo_mem j h
      exact ⟨by omega, this.2⟩
    · obtain ⟨k, hk, rfl⟩ := List.mem_map.1 h
      have := List.mem_range.1 hk
      exact ⟨by simp, by simp; omega⟩
theorem posL_ok {cs : List Cl} {p : Nat × Nat} (h : p ∈ posL cs) : PosOk cs p.1 p.2 := by
  unfold posL at h
  rw [List.mem_append] at h
  rcases h with h | h
  · exact .inl (posTo_mem _ h)
  · rw [List.mem_singleton] at h
    subst h
    exact .inr ⟨rfl, rfl⟩
theorem num_inj {cs : List Cl} {i k i' k' : Nat} (h : PosOk cs i k) (h' : PosOk cs i' k') (e : num cs i k = num cs i' k') : i = i' ∧ k = k' := by
  have h1 := pos_get h
  rw [e, pos_get h'] at h1
  injection h1 with h1
  injection h1 with h2 h3
  exact ⟨h2.symm, h3.symm⟩
/-- The position of a number. -/
def posAt (cs : List Cl) (x : Nat) : Nat × Nat := (posL cs).getD x (0, 0)
theorem posAt_eq {cs : List Cl} {x : Nat} {p : Nat × Nat} (h : (posL cs)[x]? = some p) : posAt cs x = p := by unfold posAt; rw [List.getD_eq_getElem?_getD, h]; rfl
theorem posAt_ok {cs : List Cl} {x : Nat} (h : x < (posL cs).length) : PosOk cs (posAt cs x).1 (posAt cs x).2 := by
  have e := posAt_eq (List.getElem?_eq_getElem h)
  rw [e]
  exact posL_ok (List.getElem_mem h)
theorem posAt_num {cs : List Cl} {i k : Nat} (h : PosOk cs i k) : posAt cs (num cs i k) = (i, k) := posAt_eq (pos_get h)
/-- The next place of a cell is the next number. -/
theorem num_next (cs : List Cl) (i k : Nat) : num cs i (k + 1) = num cs i k + 1 := rfl
theorem posTo_inj {cs : List Cl} : ∀ (j x y : Nat) (p : Nat × Nat), (posTo cs j)[x]? = some p → (posTo cs j)[y]? = some p → x = y
  | 0, x, y, p, h, _ => by simp [posTo] at h
  | j + 1, x, y, p, h1, h2 => by
    rw [posTo] at h1 h2
    have hlt : ∀ z, z < (posTo cs j).length → (posTo cs j ++ (List.range ((cl cs j).mx.toNat + 1)).map fun k => (j, k))[z]? = some p → p.1 < j := fun z hz h => by
      rw [List.getElem?_append_left hz] at h
      exact (posTo_mem j (List.mem_of_getElem? h)).1
    have hge : ∀ z, (posTo cs j).length ≤ z → (posTo cs j ++ (List.range ((cl cs j).mx.toNat + 1)).map fun k => (j, k))[z]? = some p → p.1 = j ∧ z = (posTo cs j).length + p.2 := fun z hz h => by
      rw [List.getElem?_append_right hz, List.getElem?_map] at h
      cases e : (List.range ((cl cs j).mx.toNat + 1))[z - (posTo cs j).length]? with
      | none => rw [e] at h; cases h
      | some k =>
        rw [e] at h
        have hk := List.getElem?_eq_some_iff.1 e
        obtain ⟨h3, h4⟩ := hk
        rw [List.getElem_range] at h4
        injection h with h
        rw [← h]
        exact ⟨rfl, by simp; omega⟩
    rcases Nat.lt_or_ge x (posTo cs j).length with hx | hx <;> rcases Nat.lt_or_ge y (posTo cs j).length with hy | hy
    · rw [List.getElem?_append_left hx] at h1
      rw [List.getElem?_append_left hy] at h2
      exact posTo_inj j x y p h1 h2
    · have a := hlt x hx h1; have b := (hge y hy h2).1; omega
    · have a := hlt y hy h2; have b := (hge x hx h1).1; omega
    · have a := (hge x hx h1).2; have b := (hge y hy h2).2; omega
/-- A number is that of its position. -/
theorem num_posAt {cs : List Cl} {x : Nat} (h : x < (posL cs).length) : num cs (posAt cs x).1 (posAt cs x).2 = x := by
  have h1 := pos_get (posAt_ok h)
  have h2 : (posL cs)[x]? = some (posAt cs x) := by rw [List.getElem?_eq_getElem h]; exact congrArg some (posAt_eq (List.getElem?_eq_getElem h)).symm
  unfold posL at h1 h2
  generalize posAt cs x = p at *
  obtain ⟨i, k⟩ := p
  show num cs i k = x
  have h1 : (posTo cs cs.length ++ [(cs.length, 0)])[num cs i k]? = some (i, k) := h1
  have hin : ∀ z, z < (posTo cs cs.length).length → (posTo cs cs.length ++ [(cs.length, 0)])[z]? = some (i, k) → i < cs.length := fun z hz h => by
    rw [List.getElem?_append_left hz] at h
    exact (posTo_mem _ (List.mem_of_getElem? h)).1
  have hout : ∀ z, (posTo cs cs.length).length ≤ z → (posTo cs cs.length ++ [(cs.length, 0)])[z]? = some (i, k) → i = cs.length ∧ z = (posTo cs cs.length).length := fun z hz h => by
    rw [List.getElem?_append_right hz] at h
    have h3 := (List.getElem?_eq_some_iff.1 h).1
    simp at h3
    have h4 : z - (posTo cs cs.length).length = 0 := by omega
    rw [h4] at h
    injection h with h
    injection h with h _
    exact ⟨h.symm, by omega⟩
  rcases Nat.lt_or_ge (num cs i k) (posTo cs cs.length).length with hx | hx <;> rcases Nat.lt_or_ge x (posTo cs cs.length).length with hy | hy
  · rw [List.getElem?_append_left hx] at h1
    rw [List.getElem?_append_left hy] at h2
    exact posTo_inj _ _ _ _ h1 h2
  · have a := hin _ hx h1; have b := (hout _ hy h2).1; omega
  · have a := hin _ hy h2; have b := (hout _ hx h1).1; omega
  · have a := (hout _ hx h1).2; have b := (hout _ hy h2).2; omega
/-- What can be read from one of a set of positions on. -/
def lang (cs : List Cl) (S : List Nat) (T : List Int) : Prop := ∃ x ∈ S, Acc cs (posAt cs x).1 (posAt cs x).2 T
/-- Numbers of positions. -/
def SetOk (cs : List Cl) (S : List Nat) : Prop := ∀ x ∈ S, x < (posL cs).length
/-- What can be reached without a sign is in it. -/
def Closd (cs : List Cl) (S : List Nat) : Prop := ∀ x ∈ S, (posAt cs x).1 < cs.length → (cl cs (posAt cs x).1).mn ≤ ((posAt cs x).2 : Int) → num cs ((posAt cs x).1 + 1) 0 ∈ S
theorem next_ok {cs : List Cl} {i : Nat} (h : i < cs.length) : PosOk cs (i + 1) 0 := by
  rcases Nat.lt_or_ge (i + 1) cs.length with h1 | h1
  · exact .inl ⟨h1, Nat.zero_le _⟩
  · exact .inr ⟨by omega, rfl⟩
/-- A set that is closed reads a sign by one of its own positions. -/
theorem lang_sgn {cs : List Cl} {S : List Nat} (hc : Closd cs S) {i k : Nat} {a : Int} {T : List Int} (h : Acc cs i k (a :: T)) : ∀ x ∈ S, posAt cs x = (i, k) → ∃ y ∈ S, (posAt cs y).1 < cs.length ∧ ((posAt cs y).2 : Int) < (cl cs (posAt cs y).1).mx ∧ alw (cl cs (posAt cs y).1) a = true ∧ Acc cs (posAt cs y).1 ((posAt cs y).2 + 1) T := by
  generalize hL : a :: T = L at h
  induction h with
  | fin => cases hL
  | @eps i k S hi hk h ih =>
    intro x hx e
    have h1 := hc x hx (by rw [e]; exact hi) (by rw [e]; exact hk)
    rw [e] at h1
    exact ih hL _ h1 (posAt_num (next_ok hi))
  | @sgn i k b S hi hk ha h ih =>
    intro x hx e
    injection hL with e1 e2
    subst e1 e2
    exact ⟨x, hx, by rw [e]; exact ⟨hi, hk, ha, h⟩⟩
theorem lang_fin {cs : List Cl} {S : List Nat} (hc : Closd cs S) {i k : Nat} (h : Acc cs i k []) : ∀ x ∈ S, posAt cs x = (i, k) → x < (posL cs).length → num cs cs.length 0 ∈ S := by
  generalize hL : ([] : List Int) = L at h
  induction h with
  | fin =>
    intro x hx e hlt
    have := num_posAt hlt
    rw [e] at this
    rw [this]
    exact hx
  | @eps i k S hi hk h ih =>
    intro x hx e _
    have h1 := hc x hx (by rw [e]; exact hi) (by rw [e]; exact hk)
    rw [e] at h1
    exact ih hL _ h1 (posAt_num (next_ok hi)) (num_lt (next_ok hi))
  | @sgn i k b S hi hk ha h ih => cases hL
/-- The positions that come straight behind a sign. -/
def stepS (cs : List Cl) (a : Int) (S : List Nat) : List Nat := S.filterMap fun x => if (posAt cs x).1 < cs.length ∧ ((posAt cs x).2 : Int) < (cl cs (posAt cs x).1).mx ∧ alw (cl cs (posAt cs x).1) a = true then some (x + 1) else none
theorem step_mem {cs : List Cl} {a : Int} {S : List Nat} {y : Nat} : y ∈ stepS cs a S ↔ ∃ x ∈ S, ((posAt cs x).1 < cs.length ∧ ((posAt cs x).2 : Int) < (cl cs (posAt cs x).1).mx ∧ alw (cl cs (posAt cs x).1) a = true) ∧ y = x + 1 := by
  unfold stepS
  rw [List.mem_filterMap]
  constructor
  · rintro ⟨x, hx, h⟩
    split at h
    · rename_i hc
      injection h with h
      exact ⟨x, hx, hc, h.symm⟩
    · cases h
  · rintro ⟨x, hx, hc, rfl⟩
    exact ⟨x, hx, if_pos hc⟩
theorem step_pos {cs : List Cl} {x : Nat} (hx : x < (posL cs).length) (h1 : (posAt cs x).1 < cs.length) (h2 : ((posAt cs x).2 : Int) < (cl cs (posAt cs x).1).mx) : x + 1 < (posL cs).length ∧ posAt cs (x + 1) = ((posAt cs x).1, (posAt cs x).2 + 1) := by
  have hp : PosOk cs (posAt cs x).1 ((posAt cs x).2 + 1) := .inl ⟨h1, by omega⟩
  have e := num_next cs (posAt cs x).1 (posAt cs x).2
  rw [num_posAt hx] at e
  rw [← e]
  exact ⟨num_lt hp, posAt_num hp⟩
theorem step_ok {cs : List Cl} {a : Int} {S : List Nat} (h : SetOk cs S) : SetOk cs (stepS cs a S) := fun y hy => by
  obtain ⟨x, hx, ⟨h1, h2, _⟩, rfl⟩ := step_mem.1 hy
  exact (step_pos (h x hx) h1 h2).1
theorem step_lang {cs : List Cl} {a : Int} {S : List Nat} (h : SetOk cs S) (hc : Closd cs S) (T : List Int) : lang cs (stepS cs a S) T ↔ lang cs S (a :: T) := by
  constructor
  · rintro ⟨y, hy, hT⟩
    obtain ⟨x, hx, ⟨h1, h2, h3⟩, rfl⟩ := step_mem.1 hy
    rw [(step_pos (h x hx) h1 h2).2] at hT
    exact ⟨x, hx, .sgn h1 h2 h3 hT⟩
  · rintro ⟨x, hx, hT⟩
    obtain ⟨y, hy, h1, h2, h3, h4⟩ := lang_sgn hc hT x hx rfl
    refine ⟨y + 1, step_mem.2 ⟨y, hy, ⟨h1, h2, h3⟩, rfl⟩, ?_⟩
    rw [(step_pos (h y hy) h1 h2).2]
    exact h4
theorem fin_lang {cs : List Cl} {S : List Nat} (h : SetOk cs S) (hc : Closd cs S) : lang cs S [] ↔ num cs cs.length 0 ∈ S := by
  constructor
  · rintro ⟨x, hx, hT⟩
    exact lang_fin hc hT x hx rfl (h x hx)
  · intro hx
    refine ⟨_, hx, ?_⟩
    rw [posAt_num (.inr ⟨rfl, rfl⟩)]
    exact .fin
/-- A set that can be reached without signs from another one, and has it, reads the same. -/
theorem reach_lang {cs : List Cl} {S R : List Nat} (h1 : ∀ x ∈ S, x ∈ R) (h2 : ∀ y ∈ R, ∀ T, Acc cs (posAt cs y).1 (posAt cs y).2 T → lang cs S T) (T : List Int) : lang cs R T ↔ lang cs S T :=
  ⟨fun ⟨y, hy, hT⟩ => h2 y hy T hT, fun ⟨x, hx, hT⟩ => ⟨x, h1 x hx, hT⟩⟩
/-- A valid cell. -/
structure ClOk (n : Nat) (c : Cl) : Prop where
  lo : 0 ≤ c.mn
  le : c.mn ≤ c.mx
  hi : c.mx ≤ 9
  sg : ∀ a ∈ c.signs, 0 ≤ a ∧ a < n
  no : n = 0 → c.mx = 0
theorem alw_some {n : Nat} {c : Cl} (h : ClOk n c) (hx : 0 < c.mx) : ∃ a : Int, 0 ≤ a ∧ a < n ∧ alw c a = true := by
  unfold alw
  cases hs : c.signs with
  | nil => exact ⟨0, Int.le_refl _, by have := h.no; omega, by simp⟩
  | cons a l =>
    have := h.sg a (by rw [hs]; simp)
    exact ⟨a, this.1, this.2, by simp⟩
/-- Each position can be gone on from. -/
theorem acc_some {n : Nat} {cs : List Cl} (hv : ∀ c ∈ cs, ClOk n c) : ∀ (f i k : Nat), PosOk cs i k → 20 * (cs.length - i) + (10 - k) ≤ f → ∃ T : List Int, Acc cs i k T ∧ ∀ a ∈ T, 0 ≤ a ∧ a < n
  | f, i, k, h, hf => by
    rcases h with ⟨hi, hk⟩ | ⟨rfl, rfl⟩
    · have hc := hv _ (List.getElem_mem hi)
      rw [← cl_at hi] at hc
      have h9 := hc.hi; have hlo := hc.lo; have hle := hc.le
      by_cases hm : (cl cs i).mn ≤ (k : Int)
      · match f, hf with
        | 0, hf => omega
        | f + 1, hf =>
          obtain ⟨T, h1, h2⟩ := acc_some hv f (i + 1) 0 (next_ok hi) (by omega)
          exact ⟨T, .eps hi hm h1, h2⟩
      · match f, hf with
        | 0, hf => omega
        | f + 1, hf =>
          obtain ⟨T, h1, h2⟩ := acc_some hv f i (k + 1) (.inl ⟨hi, by omega⟩) (by omega)
          obtain ⟨a, a1, a2, a3⟩ := alw_some hc (by omega)
          exact ⟨a :: T, .sgn hi (by omega) a3 h1, fun b hb => by
            rcases List.mem_cons.1 hb with rfl | hb
            · exact ⟨a1, a2⟩
            · exact h2 b hb⟩
    · exact ⟨[], .fin, fun a ha => by cases ha⟩
/-- How many signs the cells from i on can have. -/
def sumM (cs : List Cl) : Nat := (cs.map fun c => c.mx.toNat).sum
theorem sumM_cons (c : Cl) (cs : List Cl) : sumM (c :: cs) = c.mx.toNat + sumM cs := by unfold sumM; simp
theorem sumM_drop {cs : List Cl} {i : Nat} (h : i < cs.length) : sumM (cs.drop i) = (cl cs i).mx.toNat + sumM (cs.drop (i + 1)) := by rw [List.drop_eq_getElem_cons h, sumM_cons, cl_at h]
/-- A line is no longer than the cells allow. -/
theorem acc_len {cs : List Cl} {i k : Nat} {T : List Int} (h : Acc cs i k T) (hk : i < cs.length → k ≤ (cl cs i).mx.toNat) : T.length + (if i < cs.length then k else 0) ≤ sumM (cs.drop i) := by
  induction h with
  | fin => simp
  | @eps i k S hi _ h ih =>
    have := ih (fun _ => Nat.zero_le _)
    rw [if_pos hi, sumM_drop hi]
    have := hk hi
    split at * <;> omega
  | @sgn i k a S hi hm _ h ih =>
    have := ih (fun _ => by omega)
    rw [if_pos hi] at this ⊢
    rw [List.length_cons]
    omega
end Go.Proofs.Ytaoddenadfmdbaa
