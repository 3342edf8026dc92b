/- PLAIN LAW: the scale of a group, and where its boxes stand. -/
import Derived.Test.YtimblabaeclhpaaGreatLayL
namespace Go.Proofs.YtimblabaeclhpaaGreat
/-- The scale of a group: its node, its natural size. -/
def scl (rows : Bool) (n : Nd) (z : Int × Int) : Fr :=
  if rows = false ∨ n.kind ≠ 5 then minF (if rows = true ∨ n.kind ≠ 5 then minF (whF 1) (frR 48 z.2) else whF 1) (frR 48 z.1) else if rows = true ∨ n.kind ≠ 5 then minF (whF 1) (frR 48 z.2) else whF 1
structure ScOk (s : Fr) : Prop where
  n0 : 1 ≤ s.n
  nd : s.n ≤ s.d
  d1 : s.d ≤ 6600
  g : Int.gcd s.n s.d = 1
theorem ScOk.eq {s : Fr} (h : ScOk s) : s = frR s.n s.d := (frR_id h.g).symm
theorem ScOk.d0 {s : Fr} (h : ScOk s) : 0 < s.d := by have := h.n0; have := h.nd; omega
theorem sc_one : ScOk (whF 1) := ⟨Int.le_refl _, Int.le_refl _, by decide, by decide⟩
theorem minF_le (a b : Fr) : minF a b = a ∨ (minF a b = b ∧ b.lt a) := by
  unfold minF
  split
  · exact .inr ⟨rfl, by assumption⟩
  · exact .inl rfl
theorem sc_min {s : Fr} (hs : ScOk s) {h : Int} (h0 : 4 ≤ h) (h4 : h % 4 = 0) (h1 : h ≤ 26400) : ScOk (minF s (frR 48 h)) := by
  rcases minF_le s (frR 48 h) with e | ⟨e, hl⟩
  · rw [e]; exact hs
  · rw [e]
    have hp := frR_pos (n := 48) (d := h) (by omega)
    have hc := frR_cross (n := 48) (d := h) (by omega)
    have hle := frR_le (n := 48) (d := h) (by omega)
    have hg := frR_gcd (n := 48) (d := h) (by omega)
    have hm := (frR_mul (n := 48) (d := h) (by omega)).1
    have hm2 := (frR_mul (n := 48) (d := h) (by omega)).2
    have hg4 : (4 : Int) ≤ (Int.gcd 48 h : Int) := by
      have hd4 : (4 : Int) ∣ (Int.gcd 48 h : Int) := Int.dvd_coe_gcd (by decide) (Int.dvd_of_emod_eq_zero h4)
      exact Int.le_of_dvd (gcd_pos (n := 48) (d := h) (by omega)) hd4
    have hgp := gcd_pos (n := 48) (d := h) (by omega)
    rw [hs.eq, lt_frR (by omega) hs.d0] at hl
    have hn := hs.nd
    have hd := hs.d0
    have h48 : 48 < h := by
      rcases Int.lt_or_le 48 h with h2 | h2
      · exact h2
      · have : s.n * h ≤ 48 * s.d := by
          have a1 := Int.mul_le_mul hn h2 (by omega) (by omega)
          rw [Int.mul_comm s.d] at a1
          exact a1
        omega
    generalize frR 48 h = f at *
    have hn1 : 1 ≤ f.n := by
      rcases Int.lt_or_le 0 f.n with h2 | h2
      · omega
      · have := Int.mul_nonpos_of_nonpos_of_nonneg h2 (Int.le_of_lt hgp)
        omega
    have hfd : f.d * 4 ≤ h := by have := Int.mul_le_mul_of_nonneg_left hg4 (Int.le_of_lt hp); omega
    refine ⟨hn1, ?_, by omega, hg⟩
    rcases Int.lt_or_le f.d f.n with h2 | h2
    · have a1 : f.d * h < f.n * h := Int.mul_lt_mul_of_pos_right h2 (by omega)
      have a2 : 48 * f.d < h * f.d := Int.mul_lt_mul_of_pos_right h48 hp
      rw [Int.mul_comm h] at a2
      omega
    · exact h2
theorem scl_ok {rows : Bool} {n : Nd} {z : Int × Int} {B : Int} (hz : SzOk B z) (hB : B ≤ 26400) : ScOk (scl rows n z) := by
  have a1 := hz.p1; have a2 := hz.p2; have b1 := hz.b1; have b2 := hz.b2
  unfold scl
  split
  · split
    · exact sc_min (sc_min sc_one a2 hz.m2 (by omega)) a1 hz.m1 (by omega)
    · exact sc_min sc_one a1 hz.m1 (by omega)
  · split
    · exact sc_min sc_one a2 hz.m2 (by omega)
    · exact sc_one
/-- A place along a line, and one across it. -/
def plA (s : Fr) (at_ v : Int) : Fr := frR (2 * at_ * s.d + 2 * v * s.n) (2 * s.d)
def plC (s : Fr) (line c v : Int) : Fr := frR (144 * line * s.d + 48 * s.d - c * s.n + 2 * v * s.n) (2 * s.d)
section
variable {s : Fr} (hs : ScOk s)
include hs
theorem times_s (v : Int) : s.times (4 * v) 4 = frR (v * s.n) s.d := by
  have e : s.times (4 * v) 4 = (frR s.n s.d).times (4 * v) 4 := by rw [← hs.eq]
  rw [e, times_frR hs.d0 (by omega)]
  have e2 : s.n * (4 * v) = v * s.n * 4 := by ac_rfl
  rw [e2, frR_scale hs.d0 (by omega)]
theorem times_1 (v : Int) : s.times v 1 = frR (v * s.n) s.d := by
  have e : s.times v 1 = (frR s.n s.d).times v 1 := by rw [← hs.eq]
  rw [e, times_frR hs.d0 (by omega), Int.mul_one, Int.mul_comm]
theorem plA_doc (a v : Int) : (whF a).add (frR (v * s.n) s.d) = plA s a v := by
  have hd := hs.d0
  unfold plA
  rw [whF_eq, add_frR (by omega) hd, Int.one_mul, Int.mul_one, ← frR_scale (k := 2) hd (by omega)]
  have e : (a * s.d + v * s.n) * 2 = 2 * a * s.d + 2 * v * s.n := by rw [Int.add_mul]; congr 1 <;> ac_rfl
  rw [e, Int.mul_comm s.d]
/-- The middle of a line. -/
theorem mid_prog (c : Int) : ((whF 48).sub (s.times c 1)).times 1 2 = frR (48 * s.d - c * s.n) (2 * s.d) := by
  have hd := hs.d0
  rw [times_1 hs, whF_eq, sub_frR (by omega) hd, times_frR (by omega) (by omega), Int.one_mul, Int.mul_one, Int.mul_one]
  rw [Int.mul_comm s.d 2]
  rfl
theorem lin_frR (a c : Int) : (whF (72 * a)).add (frR (48 * s.d - c * s.n) (2 * s.d)) = frR (144 * a * s.d + 48 * s.d - c * s.n) (2 * s.d) := by
  have hd := hs.d0
  rw [whF_eq, add_frR (by omega) (by omega), Int.one_mul, Int.mul_one]
  have e : 72 * a * (2 * s.d) + (48 * s.d - c * s.n) = 144 * a * s.d + 48 * s.d - c * s.n := by
    have : 72 * a * (2 * s.d) = 144 * a * s.d := by
      calc 72 * a * (2 * s.d) = (72 * 2) * (a * s.d) := by ac_rfl
        _ = 144 * (a * s.d) := rfl
        _ = 144 * a * s.d := by ac_rfl
    omega
  rw [e]
theorem plC_doc (a c v : Int) : (frR (144 * a * s.d + 48 * s.d - c * s.n) (2 * s.d)).add (frR (v * s.n) s.d) = plC s a c v := by
  have hd := hs.d0
  unfold plC
  rw [add_frR (by omega) hd]
  have e : (144 * a * s.d + 48 * s.d - c * s.n) * s.d + v * s.n * (2 * s.d) = (144 * a * s.d + 48 * s.d - c * s.n + 2 * v * s.n) * s.d := by
    have : v * s.n * (2 * s.d) = 2 * v * s.n * s.d := by ac_rfl
    rw [this, ← Int.add_mul]
  rw [e, frR_scale (by omega) hd]
end
end Go.Proofs.YtimblabaeclhpaaGreat

/- PLAIN LAW: where the groups stand in lines, and the boxes of a layout. -/
namespace Go.Proofs.YtimblabaeclhpaaGreat
def stq (len : Int) (st : Int × Int) (long : Fr) : Int × Int := if 0 < st.2 ∧ (whF len).lt ((whF st.2).add long) then (st.1 + 1, 0) else st
def stn (c : Int × Int) (long : Fr) : Int × Int := (c.1, c.2 + 24 + ceilF long)
/-- Line and begin of each group, and where the next one could begin. -/
def stands (len : Int) : List Fr → Int × Int → List (Int × Int)
  | [], _ => []
  | x :: xs, st => stq len st x :: stands len xs (stn (stq len st x) x)
def stEnd (len : Int) : List Fr → Int × Int → Int × Int
  | [], st => st
  | x :: xs, st => stEnd len xs (stn (stq len st x) x)
theorem stands_snoc (len : Int) (x : Fr) : ∀ (xs : List Fr) (st : Int × Int), stands len (xs ++ [x]) st = stands len xs st ++ [stq len (stEnd len xs st) x]
  | [], _ => rfl
  | y :: ys, st => by
    rw [List.cons_append, stands, stands, stands_snoc len x ys, stEnd, List.cons_append]
theorem stEnd_snoc (len : Int) (x : Fr) : ∀ (xs : List Fr) (st : Int × Int), stEnd len (xs ++ [x]) st = stn (stq len (stEnd len xs st) x) x
  | [], _ => rfl
  | y :: ys, st => by
    rw [List.cons_append, stEnd, stEnd, stEnd_snoc len x ys]
theorem stands_len (len : Int) : ∀ (xs : List Fr) (st : Int × Int), (stands len xs st).length = xs.length
  | [], _ => rfl
  | y :: ys, st => by rw [stands, List.length_cons, stands_len len ys, List.length_cons]
/-- A length that a group may have. -/
structure LgOk (x : Fr) : Prop where
  d0 : 0 < x.d
  g : Int.gcd x.n x.d = 1
  n0 : 0 < x.n
  hi : x.n ≤ 26400 * x.d
theorem LgOk.eq {x : Fr} (h : LgOk x) : x = frR x.n x.d := (frR_id h.g).symm
theorem LgOk.of {s : Fr} (hs : ScOk s) {v : Int} (h0 : 0 < v) (h1 : v ≤ 26400) : LgOk (frR (v * s.n) s.d) := by
  have hd := hs.d0
  have hc := frR_cross (n := v * s.n) hd
  have hp := frR_pos (n := v * s.n) hd
  have hg := frR_gcd (n := v * s.n) hd
  have hm := (frR_mul (n := v * s.n) hd).1
  have hgp := gcd_pos (n := v * s.n) hd
  have hn := hs.n0
  have hvn : 0 < v * s.n := Int.mul_pos h0 (by omega)
  generalize frR (v * s.n) s.d = x at *
  have hn1 : 0 < x.n := by
    rcases Int.lt_or_le 0 x.n with h2 | h2
    · exact h2
    · have := Int.mul_nonpos_of_nonpos_of_nonneg h2 (Int.le_of_lt hgp)
      omega
  refine ⟨hp, hg, hn1, ?_⟩
  have e1 : v * s.n ≤ 26400 * s.d := Int.mul_le_mul h1 hs.nd (by omega) (by omega)
  have e2 : v * s.n * x.d ≤ 26400 * s.d * x.d := Int.mul_le_mul_of_nonneg_right e1 (Int.le_of_lt hp)
  have e3 : x.n * s.d ≤ 26400 * x.d * s.d := by
    have : 26400 * s.d * x.d = 26400 * x.d * s.d := by ac_rfl
    rw [hc]
    omega
  exact Int.le_of_mul_le_mul_right e3 hd
theorem ceil_bd {x : Fr} (h : LgOk x) : 1 ≤ ceilF x ∧ ceilF x ≤ 26400 ∧ x.n ≤ ceilF x * x.d := by
  have h1 := h.d0; have h2 := h.n0; have h3 := h.hi
  unfold ceilF
  have e1 := Int.mul_ediv_add_emod (-x.n) x.d
  have e2 := Int.emod_nonneg (-x.n) (show x.d ≠ 0 by omega)
  have e3 := Int.emod_lt_of_pos (-x.n) h1
  generalize (-x.n) / x.d = k at *
  generalize (-x.n) % x.d = r at *
  have hk : x.n ≤ -k * x.d := by rw [Int.neg_mul, Int.mul_comm k]; omega
  have hk1 : k < 0 := by
    rcases Int.lt_or_le k 0 with h4 | h4
    · exact h4
    · have := Int.mul_nonneg (Int.le_of_lt h1) h4
      omega
  refine ⟨by omega, ?_, hk⟩
  rcases Int.lt_or_le (-26401) k with h4 | h4
  · omega
  · have : x.d * k ≤ x.d * (-26401) := Int.mul_le_mul_of_nonneg_left h4 (Int.le_of_lt h1)
    omega
/-- The state between two groups. -/
structure StOk (len : Int) (k : Nat) (st : Int × Int) : Prop where
  l0 : 0 ≤ st.1
  l1 : st.1 ≤ k
  a0 : 0 ≤ st.2
  a1 : st.2 ≤ len + 26424
theorem lt_whole {a n : Int} {x : Fr} (h : 0 < x.d) (hg : Int.gcd x.n x.d = 1) : (whF a).lt ((whF n).add x) ↔ a * x.d < n * x.d + x.n := by
  have e : x = frR x.n x.d := (frR_id hg).symm
  have e2 : (whF n).add x = frR (n * x.d + x.n) x.d := by
    rw [whF_eq]
    have : (frR n 1).add x = (frR n 1).add (frR x.n x.d) := by rw [← e]
    rw [this, add_frR (by omega) h, Int.one_mul, Int.mul_one]
  rw [e2, whF_eq, lt_frR (by omega) h, Int.mul_one]
theorem stq_ok {len : Int} {k : Nat} {st : Int × Int} {x : Fr} (hl : 0 ≤ len) (h : StOk len k st) (hx : LgOk x) : (0 ≤ (stq len st x).1 ∧ (stq len st x).1 ≤ k + 1) ∧ 0 ≤ (stq len st x).2 ∧ (stq len st x).2 ≤ len := by
  have h1 := h.l0; have h2 := h.l1; have h3 := h.a0
  unfold stq
  split
  · exact ⟨⟨by show 0 ≤ st.1 + 1; omega, by show st.1 + 1 ≤ _; omega⟩, Int.le_refl _, hl⟩
  · rename_i hc
    refine ⟨⟨h1, by omega⟩, h3, ?_⟩
    rcases Int.lt_or_le 0 st.2 with h4 | h4
    · have h5 : ¬ len * x.d < st.2 * x.d + x.n := fun h6 => hc ⟨h4, (lt_whole hx.d0 hx.g).2 h6⟩
      have h7 := hx.n0
      have h8 : st.2 * x.d ≤ len * x.d := by omega
      exact Int.le_of_mul_le_mul_right h8 hx.d0
    · omega
theorem stn_ok {len : Int} {k : Nat} {st : Int × Int} {x : Fr} (hl : 0 ≤ len) (h : StOk len k st) (hx : LgOk x) : StOk len (k + 1) (stn (stq len st x) x) := by
  obtain ⟨⟨a1, a2⟩, a3, a4⟩ := stq_ok hl h hx
  obtain ⟨b1, b2, _⟩ := ceil_bd hx
  unfold stn
  exact ⟨a1, by show (stq len st x).1 ≤ _; omega, by show 0 ≤ (stq len st x).2 + 24 + ceilF x; omega, by show (stq len st x).2 + 24 + ceilF x ≤ _; omega⟩
theorem stEnd_ok {len : Int} (hl : 0 ≤ len) : ∀ (xs : List Fr) (k : Nat) (st : Int × Int), StOk len k st → (∀ x ∈ xs, LgOk x) → StOk len (k + xs.length) (stEnd len xs st)
  | [], k, st, h, _ => h
  | x :: xs, k, st, h, hx => by
    have := stEnd_ok hl xs (k + 1) _ (stn_ok hl h (hx x (by simp))) fun y hy => hx y (by simp [hy])
    rw [stEnd, List.length_cons, show k + (xs.length + 1) = k + 1 + xs.length by omega]
    exact this
/-- A box of a layout: the node that it shows, and where it stands. -/
structure Bxv where
  nd : Nd
  x : Fr
  y : Fr
  w : Fr
  h : Fr
/-- The box of a spot: way, scale, line and begin, the group's natural extent across its line. -/
def boxOf (way : Int) (rows : Bool) (s : Fr) (c : Int × Int) (cr : Int) (n : Nd) (p : Spot) : Bxv :=
  let x := if rows then plA s c.2 p.x else plC s c.1 cr p.x
  let w := frR (p.w * s.n) s.d
  ⟨n, if way % 2 = 0 then (x.add w).neg else x, if rows then plC s c.1 cr p.y else plA s c.2 p.y, w, frR (p.h * s.n) s.d⟩
section
variable (ss : List Sg) (l : List Nd) (rows : Bool)
/-- A group's natural size, scale, length. -/
def gZ (i : Nat) : Int × Int := szN ss l rows l.length i
noncomputable def gS (i : Nat) : Fr := scl rows (nd l i) (gZ ss l rows i)
def gAl (i : Nat) : Int := if rows then (gZ ss l rows i).1 else (gZ ss l rows i).2
def gCr (i : Nat) : Int := if rows then (gZ ss l rows i).2 else (gZ ss l rows i).1
noncomputable def gL (i : Nat) : Fr := frR (gAl ss l rows i * (gS ss l rows i).n) (gS ss l rows i).d
noncomputable def grpBx (way : Int) (i : Nat) (c : Int × Int) : List Bxv := (spotsN ss l rows l.length i 0 0).map fun p => boxOf way rows (gS ss l rows i) c (gCr ss l rows i) (nd l p.node) p
noncomputable def layS (len : Int) : List (Int × Int) := stands len ((kidsOf l (-1)).map (gL ss l rows)) (0, 0)
noncomputable def layBx (way len : Int) : List Bxv := (List.zipWith (grpBx ss l rows way) (kidsOf l (-1)) (layS ss l rows len)).flatten
end
end Go.Proofs.YtimblabaeclhpaaGreat

/- PLAIN LAW: which nodes of a text have boxes. -/
namespace Go.Proofs.YtimblabaeclhpaaGreat
/-- Has a node of this kind a box? -/
def visB (k : Int) : Bool := leafB k || decide (k = 5)
def vsn (l : List Nd) (xs : List Nat) : List Nat := xs.filter fun j => visB (kd l j)
theorem kids_part {l : List Nd} {e : Nat} {g : Nat → List Nat} : ∀ (f k : Nat), e ≤ f + k → k ≤ e → (∀ x, k ≤ x → x < e → endOf l x ≤ e) → (∀ x, k ≤ x → x < e → g x = vsn l (List.range' x (endOf l x - x))) → (kidsR l e f k).flatMap g = vsn l (List.range' k (e - k))
  | 0, k, h1, h2, _, _ => by
    obtain rfl : k = e := by omega
    simp [kidsR, vsn]
  | f + 1, k, h1, h2, h3, h4 => by
    unfold kidsR
    by_cases hk : k < e
    · have hg := endOf_gt l k
      have he := h3 k (Nat.le_refl _) hk
      have ap : vsn l (List.range' k (endOf l k - k) ++ List.range' (endOf l k) (e - endOf l k)) = vsn l (List.range' k (endOf l k - k)) ++ vsn l (List.range' (endOf l k) (e - endOf l k)) := List.filter_append ..
      rw [if_pos hk, List.flatMap_cons, range_cut (Nat.le_of_lt hg) he, ap, h4 k (Nat.le_refl _) hk, kids_part f (endOf l k) (by omega) he (fun x hx hx2 => h3 x (by omega) hx2) fun x hx hx2 => h4 x (by omega) hx2]
    · obtain rfl : k = e := by omega
      rw [if_neg hk]
      simp [vsn]
theorem kidSp_nodes {g : Nat → Int → Int → List Spot} {z : Nat → Int × Int} {a : Bool} {sp : Int} {Z : Int × Int} {nd : Nat → List Nat} : ∀ (ks : List Nat), (∀ k ∈ ks, ∀ x y, (g k x y).map Spot.node = nd k) → ∀ x y, (kidSp g z a sp Z ks x y).map Spot.node = ks.flatMap nd
  | [], _, _, _ => rfl
  | k :: ks, h, x, y => by
    have ih := kidSp_nodes (z := z) (a := a) (sp := sp) (Z := Z) ks fun j hj => h j (by simp [hj])
    rw [kidSp, List.flatMap_cons]
    split <;> rw [List.map_append, h k (by simp), ih]
theorem spots_nodes {P : Int} {ss : List Sg} {l : List Nd} {rows : Bool} (hp : Pln P ss l) : ∀ (f i : Nat), i < l.length → l.length ≤ f + i → ∀ x y, (spotsN ss l rows f i x y).map Spot.node = vsn l (List.range' i (endOf l i - i))
  | 0, i, h, h1 => by omega
  | f + 1, i, hi, hf => by
    intro x y
    have hw := hp.val.good.wf
    have hg := endOf_gt l i
    have hle := endOf_le hi
    have cut : vsn l (List.range' i (endOf l i - i)) = (if visB (kd l i) = true then [i] else []) ++ vsn l (List.range' (i + 1) (endOf l i - (i + 1))) := by
      rw [range_cut (a := i) (b := i + 1) (c := endOf l i) (by omega) (by omega), show i + 1 - i = 1 by omega, List.range'_one]
      unfold vsn
      rw [List.singleton_append, List.filter_cons]
      split <;> simp
    unfold spotsN
    by_cases hk : leafB (kd l i) = true
    · rw [if_pos hk, cut, end_leaf hw hi hk, show i + 1 - (i + 1) = 0 by omega]
      have : visB (kd l i) = true := by unfold visB; rw [hk]; rfl
      rw [if_pos this]
      rfl
    · rw [if_neg hk]
      by_cases h4 : kd l i = 4
      · rw [if_pos h4, cut]
        obtain ⟨hks, a0, a1, a2⟩ := over_kids hp.val hi h4
        have v4 : ¬ visB (kd l i) = true := by rw [h4]; decide
        have e1 := end_leaf hw (i := i + 1) (by omega) (by rw [a1]; rfl)
        have e2 := end_leaf hw (i := i + 2) (by omega) (by rw [a2]; rfl)
        have hfr : kidsFr (i : Int) = i + 1 := if_pos (by omega)
        have hto : kidsTo l (i : Int) = endOf l i := if_pos (by omega)
        have hend : endOf l i = i + 3 := by
          unfold kidsOf at hks
          rw [hfr, hto] at hks
          have b1 : i + 1 < endOf l i := by
            rcases Nat.lt_or_ge (i + 1) (endOf l i) with h | h
            · exact h
            · rw [kidsFrom_stop (by omega)] at hks; simp at hks
          rw [kidsFrom_s b1, e1] at hks
          have b2 : i + 2 < endOf l i := by
            rcases Nat.lt_or_ge (i + 2) (endOf l i) with h | h
            · exact h
            · rw [kidsFrom_stop (by omega)] at hks; simp at hks
          rw [kidsFrom_s b2, e2] at hks
          rcases Nat.lt_or_ge (i + 3) (endOf l i) with h | h
          · rw [kidsFrom_s h] at hks; simp at hks
          · omega
        rw [if_neg v4, hend, show i + 3 - (i + 1) = 2 by omega]
        have v1 : visB (kd l (i + 1)) = true := by rw [a1]; rfl
        have v2 : visB (kd l (i + 2)) = true := by rw [a2]; rfl
        have er : List.range' (i + 1) 2 = [i + 1, i + 2] := rfl
        unfold vsn
        rw [er, List.filter_cons, if_pos v1, List.filter_cons, if_pos v2]
        rfl
      · rw [if_neg h4, cut, List.map_append]
        have hmem : ∀ k ∈ kidsOf l (i : Int), i < k ∧ k < l.length := fun k hk => by
          have := kidsOf_mem (l := l) (node := (i : Int)) (by omega) (by omega) hk
          omega
        congr 1
        · have hv : visB (kd l i) = decide (kd l i = 5) := by
            unfold visB
            have : leafB (kd l i) = false := by simpa using hk
            rw [this]
            simp
          rw [hv]
          by_cases h5 : kd l i = 5
          · rw [if_pos h5, decide_eq_true h5, if_pos rfl]; rfl
          · rw [if_neg h5, decide_eq_false h5, if_neg (by decide)]; rfl
        · rw [kidSp_nodes (nd := fun k => vsn l (List.range' k (endOf l k - k))) _ fun k hk x y => spots_nodes hp f k (hmem k hk).2 (by have := hmem k hk; omega) x y]
          have hfr : kidsFr (i : Int) = i + 1 := if_pos (by omega)
          have hto : kidsTo l (i : Int) = endOf l i := if_pos (by omega)
          unfold kidsOf kidsFrom
          rw [hfr, hto]
          refine kids_part _ _ (by omega) (by omega) (fun x hx hx2 => ?_) fun x hx hx2 => rfl
          have := end_in (l := l) (node := (i : Int)) (by omega) (by omega) (x := x) (by rw [hfr]; exact hx) (by rw [hto]; exact hx2)
          rwa [hto] at this
end Go.Proofs.YtimblabaeclhpaaGreat

/- PLAIN LAW: the boxes of a layout are placed, and lie within their lines. -/
namespace Go.Proofs.YtimblabaeclhpaaGreat
/-- The bounds of numbers that a layout has. -/
theorem plA_bd {s : Fr} (hs : ScOk s) {a v : Int} (a0 : 0 ≤ a) (a1 : a ≤ 4800) (v0 : 0 ≤ v) (v1 : v ≤ 26400) : 0 ≤ 2 * a * s.d + 2 * v * s.n ∧ 2 * a * s.d + 2 * v * s.n ≤ 412000000 := by
  have hd := hs.d0; have hn := hs.n0; have h1 := hs.nd; have h2 := hs.d1
  have e1 : 0 ≤ 2 * a * s.d := Int.mul_nonneg (by omega) (by omega)
  have e2 : 0 ≤ 2 * v * s.n := Int.mul_nonneg (by omega) (by omega)
  have e3 : 2 * a * s.d ≤ 9600 * 6600 := Int.mul_le_mul (by omega) h2 (by omega) (by omega)
  have e4 : 2 * v * s.n ≤ 52800 * 6600 := Int.mul_le_mul (by omega) (by omega) (by omega) (by omega)
  omega
theorem plC_bd {s : Fr} (hs : ScOk s) {a c v : Int} (a0 : 0 ≤ a) (a1 : a ≤ 200) (c0 : 0 ≤ c) (c1 : c * s.n ≤ 48 * s.d) (v0 : 0 ≤ v) (v1 : v ≤ 26400) : 0 ≤ 144 * a * s.d + 48 * s.d - c * s.n + 2 * v * s.n ∧ 144 * a * s.d + 48 * s.d - c * s.n + 2 * v * s.n ≤ 600000000 := by
  have hd := hs.d0; have hn := hs.n0; have h1 := hs.nd; have h2 := hs.d1
  have e1 : 0 ≤ 144 * a * s.d := Int.mul_nonneg (by omega) (by omega)
  have e2 : 0 ≤ 2 * v * s.n := Int.mul_nonneg (by omega) (by omega)
  have e3 : 144 * a * s.d ≤ 28800 * 6600 := Int.mul_le_mul (by omega) h2 (by omega) (by omega)
  have e4 : 2 * v * s.n ≤ 52800 * 6600 := Int.mul_le_mul (by omega) (by omega) (by omega) (by omega)
  have e5 : 0 ≤ c * s.n := Int.mul_nonneg c0 (by omega)
  omega
theorem neg_ok {f : Fr} (h : f.ok) : f.neg.ok := by
  refine ⟨h.low, h.high, by have := h.hi; show _ ≤ -f.n; omega, by have := h.lo; show -f.n ≤ _; omega, ?_⟩
  show Int.gcd (-f.n) f.d = 1
  unfold Int.gcd
  rw [Int.natAbs_neg]
  exact h.gcd
/-- The scale lets a group's extent across fit into 48, unless it is a ring along the line. -/
theorem min_right {a b : Fr} (_ha : 0 < a.d) (_hb : 0 < b.d) : ¬ b.lt (minF a b) := by
  unfold minF
  by_cases h : b.lt a
  · rw [if_pos h]; unfold Fr.lt; omega
  · rw [if_neg h]; exact h
theorem min_left {a b : Fr} (_ha : 0 < a.d) (_hb : 0 < b.d) : ¬ a.lt (minF a b) := by
  unfold minF
  by_cases h : b.lt a
  · rw [if_pos h]; unfold Fr.lt at h ⊢; omega
  · rw [if_neg h]; unfold Fr.lt; omega
theorem fit_of {s : Fr} (hs : ScOk s) {c : Int} (hc : 4 ≤ c) (h : ¬ (frR 48 c).lt s) : c * s.n ≤ 48 * s.d := by
  rw [hs.eq, lt_frR (by omega) hs.d0] at h
  rw [Int.mul_comm c]
  omega
theorem lt_trans' {a b c : Fr} (ha : 0 < a.d) (hb : 0 < b.d) (hc : 0 < c.d) (h1 : a.lt b) (h2 : ¬ c.lt b) : a.lt c := by
  unfold Fr.lt at *
  have e1 : a.n * b.d * c.d < b.n * a.d * c.d := Int.mul_lt_mul_of_pos_right h1 hc
  have e2 : b.n * c.d * a.d ≤ c.n * b.d * a.d := Int.mul_le_mul_of_nonneg_right (by omega) (Int.le_of_lt ha)
  have e3 : b.n * a.d * c.d = b.n * c.d * a.d := by ac_rfl
  have e4 : a.n * b.d * c.d = a.n * c.d * b.d := by ac_rfl
  have e5 : c.n * b.d * a.d = c.n * a.d * b.d := by ac_rfl
  exact Int.lt_of_mul_lt_mul_right (by omega : a.n * c.d * b.d < c.n * a.d * b.d) (Int.le_of_lt hb)
theorem scl_fit {rows : Bool} {n : Nd} {z : Int × Int} {B : Int} (hz : SzOk B z) (hB : B ≤ 26400) : (rows = true → z.2 * (scl rows n z).n ≤ 48 * (scl rows n z).d) ∧ (rows = false → z.1 * (scl rows n z).n ≤ 48 * (scl rows n z).d) := by
  have hs := scl_ok (rows := rows) (n := n) hz hB
  have a1 := hz.p1; have a2 := hz.p2; have b1 := hz.b1; have b2 := hz.b2
  have q1 : 0 < (frR 48 z.1).d := frR_pos (by omega)
  have q2 : 0 < (frR 48 z.2).d := frR_pos (by omega)
  constructor
  · intro hr
    refine fit_of hs a2 ?_
    unfold scl
    subst hr
    have m2 := sc_min sc_one a2 hz.m2 (by omega)
    by_cases h5 : n.kind = 5
    · rw [if_neg (by simp [h5]), if_pos (.inl rfl)]
      exact min_right (by decide) q2
    · rw [if_pos (.inr h5), if_pos (.inl rfl)]
      have m1 := sc_min m2 a1 hz.m1 (by omega)
      intro hl
      have h3 := min_left (a := minF (whF 1) (frR 48 z.2)) (b := frR 48 z.1) m2.d0 q1
      exact min_right (a := whF 1) (b := frR 48 z.2) (by decide) q2 (lt_trans' q2 m1.d0 m2.d0 hl h3)
  · intro hr
    refine fit_of hs a1 ?_
    unfold scl
    subst hr
    rw [if_pos (.inl rfl)]
    refine min_right ?_ q1
    split
    · exact (sc_min sc_one a2 hz.m2 (by omega)).d0
    · decide
end Go.Proofs.YtimblabaeclhpaaGreat
