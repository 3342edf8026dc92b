/- PLAIN LAW: two spots of a group stand apart, or one lies within the other. -/
import Derived.Test.YtfkcpcdndleboaaNumL
namespace Go.Proofs.Ytfkcpcdndleboaa
/-- Two spots, the first one before the second one. -/
def Spot.rel (l : List Nd) (p q : Spot) : Prop := (p.x + p.w ≤ q.x ∨ p.y + p.h ≤ q.y) ∨ (q.within p.x p.y p.w p.h ∧ (kd l p.node = 5 ∨ (1 ≤ p.node ∧ kd l (p.node - 1) = 4 ∧ q.node = p.node + 1)))
theorem kidSp_pair {l : List Nd} {g : Nat → Int → Int → List Spot} {z : Nat → Int × Int} {a : Bool} {sp : Int} {Z : Int × Int} (hsp : 0 ≤ sp) : ∀ (ks : List Nat), (∀ k ∈ ks, 0 ≤ (z k).1 ∧ 0 ≤ (z k).2 ∧ (a = true → (z k).2 ≤ Z.2) ∧ (a = false → (z k).1 ≤ Z.1)) → (∀ k ∈ ks, ∀ x y, ∀ s ∈ g k x y, s.within x y (z k).1 (z k).2) →
    (∀ k ∈ ks, ∀ x y, (g k x y).Pairwise (Spot.rel l)) → ∀ x y, (kidSp g z a sp Z ks x y).Pairwise (Spot.rel l)
  | [], _, _, _, x, y => by rw [kidSp]; exact List.Pairwise.nil
  | k :: ks, hz, hg, hp, x, y => by
    have hz2 := fun j (hj : j ∈ ks) => hz j (by simp [hj])
    have hg2 := fun j (hj : j ∈ ks) => hg j (by simp [hj])
    have ih := kidSp_pair (a := a) (sp := sp) (Z := Z) hsp ks hz2 hg2 fun j hj => hp j (by simp [hj])
    have hin := kidSp_in (a := a) (sp := sp) (Z := Z) hsp ks hz2 hg2
    rw [kidSp]
    cases a with
    | true =>
      rw [if_pos rfl, List.pairwise_append]
      refine ⟨hp k (by simp) _ _, ih _ _, fun p hp1 q hq => .inl (.inl ?_)⟩
      have h1 := (hg k (by simp) _ _ p hp1).x2
      have h2 := hin _ _ q hq
      rw [if_pos rfl] at h2
      have h3 := h2.x1
      omega
    | false =>
      rw [if_neg (by decide), List.pairwise_append]
      refine ⟨hp k (by simp) _ _, ih _ _, fun p hp1 q hq => .inl (.inr ?_)⟩
      have h1 := (hg k (by simp) _ _ p hp1).y2
      have h2 := hin _ _ q hq
      rw [if_neg (by decide)] at h2
      have h3 := h2.y1
      omega
theorem spots_pair {P : Int} {ss : List Sg} {l : List Nd} {rows : Bool} (hp : Pln P ss l) : ∀ (f i : Nat), i < l.length → l.length ≤ f + i → ∀ x y, (spotsN ss l rows f i x y).Pairwise (Spot.rel l)
  | 0, i, h, h1 => by omega
  | f + 1, i, hi, hf => by
    intro x y
    have ho := szN_ok (rows := rows) hp (f + 1) i hi hf
    have a1 := ho.p1; have a2 := ho.p2
    have hall := spots_in (rows := rows) hp (f + 1) i hi hf x y
    unfold spotsN at hall ⊢
    by_cases hk : leafB (kd l i) = true
    · rw [if_pos hk]
      exact List.pairwise_singleton _ _
    · rw [if_neg hk] at hall ⊢
      by_cases h4 : kd l i = 4
      · rw [if_pos h4] at hall ⊢
        refine List.Pairwise.cons (fun q hq => .inr ⟨?_, .inr ⟨by show 1 ≤ i + 1; omega, h4, ?_⟩⟩) (List.pairwise_singleton _ _)
        · exact hall q (List.mem_cons_of_mem _ hq)
        · simp only [List.mem_cons, List.not_mem_nil, or_false] at hq
          subst hq
          rfl
      · rw [if_neg h4] at hall ⊢
        have hsp := spc_ok hp.val hi
        have hmem : ∀ k ∈ kidsOf l (i : Int), i < k ∧ k < l.length := fun k hk => by
          have := kidsOf_mem (l := l) (node := (i : Int)) (by omega) (by omega) hk
          omega
        have hz : ∀ k ∈ kidsOf l (i : Int), 0 ≤ (szN ss l rows f k).1 ∧ 0 ≤ (szN ss l rows f k).2 ∧ (acr rows (nd l i) = true → (szN ss l rows f k).2 ≤ (inZ rows l (szN ss l rows f) i).2) ∧ (acr rows (nd l i) = false → (szN ss l rows f k).1 ≤ (inZ rows l (szN ss l rows f) i).1) := fun k hk => by
          have ok := szN_ok (rows := rows) hp f k (hmem k hk).2 (by have := hmem k hk; omega)
          refine ⟨by have := ok.p1; omega, by have := ok.p2; omega, fun ha => ?_, fun ha => ?_⟩
          · rw [inZ_true ha]; exact max_ge _ _ (List.mem_map_of_mem (f := fun k => (szN ss l rows f k).2) hk)
          · rw [inZ_false ha]; exact max_ge _ _ (List.mem_map_of_mem (f := fun k => (szN ss l rows f k).1) hk)
        have hk2 := kidSp_pair (l := l) (g := spotsN ss l rows f) (z := szN ss l rows f) (a := acr rows (nd l i)) (sp := spcOf (nd l i)) (Z := inZ rows l (szN ss l rows f) i) (by omega) _ hz (fun k hk x y s hs => spots_in hp f k (hmem k hk).2 (by have := hmem k hk; omega) x y s hs) (fun k hk x y => spots_pair hp f k (hmem k hk).2 (by have := hmem k hk; omega) x y) (x + brd (nd l i)) (y + brd (nd l i))
        rw [List.pairwise_append]
        refine ⟨?_, hk2, fun p hp1 q hq => ?_⟩
        · split
          · exact List.pairwise_singleton _ _
          · exact List.Pairwise.nil
        · split at hp1
          · rename_i h5
            simp only [List.mem_cons, List.not_mem_nil, or_false] at hp1
            subst hp1
            exact .inr ⟨hall q (List.mem_append_right _ hq), .inl h5⟩
          · simp at hp1
/-- A fraction that is a place across the line: it lies in the line. -/
theorem in_line {s : Fr} (hs : ScOk s) {line c v h n d : Int} (l0 : 0 ≤ line) (v0 : 0 ≤ v) (h0 : 0 < h) (vh : v + h ≤ c) (c1 : c * s.n ≤ 48 * s.d) (hd : 0 < d) (e : n * (2 * s.d) = (144 * line * s.d + 48 * s.d - c * s.n + 2 * v * s.n) * d) :
    0 ≤ n ∧ n / d / 72 = line ∧ n * (frR (h * s.n) s.d).d + (frR (h * s.n) s.d).n * d ≤ (72 * line + 48) * d * (frR (h * s.n) s.d).d := by
  have sd := hs.d0; have sn := hs.n0; have snd := hs.nd
  have hc := frR_cross (n := h * s.n) sd
  have hp := frR_pos (n := h * s.n) sd
  generalize frR (h * s.n) s.d = z at *
  have e1 : 0 ≤ 144 * line * s.d := Int.mul_nonneg (by omega) (by omega)
  have e2 : 0 ≤ 2 * v * s.n := Int.mul_nonneg (by omega) (by omega)
  have e3 : 144 * line * s.d = 72 * line * (2 * s.d) := by
    calc 144 * line * s.d = (72 * 2) * (line * s.d) := by rw [Int.mul_assoc]; rfl
      _ = 72 * line * (2 * s.d) := by ac_rfl
  have e4 : (v + h) * s.n ≤ c * s.n := Int.mul_le_mul_of_nonneg_right vh (by omega)
  rw [Int.add_mul] at e4
  have e5 : 0 < h * s.n := Int.mul_pos h0 (by omega)
  have e6 : 2 * v * s.n = 2 * (v * s.n) := by rw [Int.mul_assoc]
  -- A lies between 72 line and 72 line + 48, in 2 s.d ths
  generalize hA : 144 * line * s.d + 48 * s.d - c * s.n + 2 * v * s.n = A at *
  have b1 : 72 * line * (2 * s.d) ≤ A := by omega
  have b2 : A + 2 * (h * s.n) ≤ (72 * line + 48) * (2 * s.d) := by rw [Int.add_mul]; omega
  have n1 : 72 * line * d ≤ n := by
    have : 72 * line * (2 * s.d) * d ≤ A * d := Int.mul_le_mul_of_nonneg_right b1 (Int.le_of_lt hd)
    rw [← e] at this
    have e7 : 72 * line * (2 * s.d) * d = 72 * line * d * (2 * s.d) := by ac_rfl
    rw [e7] at this
    exact Int.le_of_mul_le_mul_right this (by omega)
  have n2 : n < (72 * line + 48) * d := by
    have h8 : A < (72 * line + 48) * (2 * s.d) := by omega
    have : A * d < (72 * line + 48) * (2 * s.d) * d := Int.mul_lt_mul_of_pos_right h8 hd
    rw [← e] at this
    have e7 : (72 * line + 48) * (2 * s.d) * d = (72 * line + 48) * d * (2 * s.d) := by ac_rfl
    rw [e7] at this
    exact Int.lt_of_mul_lt_mul_right this (by omega)
  have n0 : 0 ≤ 72 * line * d := Int.mul_nonneg (by omega) (by omega)
  refine ⟨by omega, ?_, ?_⟩
  · have q1 : 72 * line ≤ n / d := Int.le_ediv_of_mul_le hd n1
    have q2 : n / d < 72 * line + 48 := Int.ediv_lt_of_lt_mul hd n2
    omega
  · -- n z.d + z.n d, times 2 s.d
    have t1 : (n * z.d + z.n * d) * (2 * s.d) = (A + 2 * (h * s.n)) * (d * z.d) := by
      rw [Int.add_mul, Int.add_mul]
      congr 1
      · calc n * z.d * (2 * s.d) = n * (2 * s.d) * z.d := by ac_rfl
          _ = A * d * z.d := by rw [e]
          _ = A * (d * z.d) := by ac_rfl
      · calc z.n * d * (2 * s.d) = 2 * (z.n * s.d) * d := by ac_rfl
          _ = 2 * (h * s.n * z.d) * d := by rw [hc]
          _ = 2 * (h * s.n) * (d * z.d) := by ac_rfl
    have t2 : (A + 2 * (h * s.n)) * (d * z.d) ≤ (72 * line + 48) * (2 * s.d) * (d * z.d) := Int.mul_le_mul_of_nonneg_right b2 (Int.le_of_lt (Int.mul_pos hd hp))
    have t3 : (72 * line + 48) * (2 * s.d) * (d * z.d) = (72 * line + 48) * d * z.d * (2 * s.d) := by ac_rfl
    rw [← t1, t3] at t2
    exact Int.le_of_mul_le_mul_right t2 (by omega)
end Go.Proofs.Ytfkcpcdndleboaa

/- PLAIN LAW: two boxes of a layout that cross. -/
namespace Go.Proofs.Ytfkcpcdndleboaa
theorem neg_lt (a b : Fr) : (b.neg).lt a.neg ↔ a.lt b := by
  unfold Fr.lt Fr.neg
  simp only [Int.neg_mul]
  omega
theorem neg_neg (a : Fr) : a.neg.neg = a := by
  cases a
  unfold Fr.neg
  simp
theorem plA_le {s : Fr} (hs : ScOk s) {a v v' : Int} (h : v ≤ v') : ¬ (plA s a v').lt (plA s a v) := by
  have hd := hs.d0; have hn := hs.n0
  unfold plA
  rw [lt_frR (by omega) (by omega)]
  have e : 2 * v * s.n ≤ 2 * v' * s.n := Int.mul_le_mul_of_nonneg_right (by omega) (by omega)
  have : (2 * a * s.d + 2 * v * s.n) * (2 * s.d) ≤ (2 * a * s.d + 2 * v' * s.n) * (2 * s.d) := Int.mul_le_mul_of_nonneg_right (by omega) (by omega)
  omega
theorem plC_le {s : Fr} (hs : ScOk s) {a c v v' : Int} (h : v ≤ v') : ¬ (plC s a c v').lt (plC s a c v) := by
  have hd := hs.d0; have hn := hs.n0
  unfold plC
  rw [lt_frR (by omega) (by omega)]
  have e : 2 * v * s.n ≤ 2 * v' * s.n := Int.mul_le_mul_of_nonneg_right (by omega) (by omega)
  have : (144 * a * s.d + 48 * s.d - c * s.n + 2 * v * s.n) * (2 * s.d) ≤ (144 * a * s.d + 48 * s.d - c * s.n + 2 * v' * s.n) * (2 * s.d) := Int.mul_le_mul_of_nonneg_right (by omega) (by omega)
  omega
/-- A whole number between two fractions. -/
theorem between {A D B E m : Int} (hD : 0 < D) (hE : 0 < E) (h1 : A ≤ m * D) (h2 : m * E ≤ B) : ¬ (frR B E).lt (frR A D) := by
  rw [lt_frR hE hD]
  have e1 : A * E ≤ m * D * E := Int.mul_le_mul_of_nonneg_right h1 (by omega)
  have e2 : m * E * D ≤ B * D := Int.mul_le_mul_of_nonneg_right h2 (by omega)
  have e3 : m * D * E = m * E * D := by ac_rfl
  omega
theorem plA_two {s s' : Fr} (hs : ScOk s) (hs' : ScOk s') {a a' v v' al : Int} (hv : v ≤ al) (hal : al * s.n ≤ (a' - a) * s.d) (hv' : 0 ≤ v') : ¬ (plA s' a' v').lt (plA s a v) := by
  have hd := hs.d0; have hn := hs.n0; have hd' := hs'.d0; have hn' := hs'.n0
  unfold plA
  refine between (m := a') (by omega) (by omega) ?_ ?_
  · have e1 : v * s.n ≤ al * s.n := Int.mul_le_mul_of_nonneg_right hv (by omega)
    have e2 : 2 * v * s.n = 2 * (v * s.n) := by rw [Int.mul_assoc]
    have e3 : a' * (2 * s.d) = 2 * (a' * s.d) := by ac_rfl
    have e4 : 2 * a * s.d = 2 * (a * s.d) := by rw [Int.mul_assoc]
    rw [Int.sub_mul] at hal
    omega
  · have e1 : 0 ≤ 2 * v' * s'.n := Int.mul_nonneg (by omega) (by omega)
    have e3 : a' * (2 * s'.d) = 2 * a' * s'.d := by ac_rfl
    omega
theorem plC_two {s s' : Fr} (hs : ScOk s) (hs' : ScOk s') {l l' c c' v v' : Int} (hl : l < l') (hv : v ≤ c) (hc : c * s.n ≤ 48 * s.d) (hc' : c' * s'.n ≤ 48 * s'.d) (hv' : 0 ≤ v') : ¬ (plC s' l' c' v').lt (plC s l c v) := by
  have hd := hs.d0; have hn := hs.n0; have hd' := hs'.d0; have hn' := hs'.n0
  unfold plC
  refine between (m := 72 * l') (by omega) (by omega) ?_ ?_
  · have e1 : v * s.n ≤ c * s.n := Int.mul_le_mul_of_nonneg_right hv (by omega)
    have e2 : 2 * v * s.n = 2 * (v * s.n) := by rw [Int.mul_assoc]
    have e3 : 72 * l' * (2 * s.d) = 144 * (l' * s.d) := by
      calc 72 * l' * (2 * s.d) = (72 * 2) * (l' * s.d) := by ac_rfl
        _ = 144 * (l' * s.d) := rfl
    have e4 : 144 * l * s.d = 144 * (l * s.d) := by rw [Int.mul_assoc]
    have e5 : (l + 1) * s.d ≤ l' * s.d := Int.mul_le_mul_of_nonneg_right (by omega) (by omega)
    rw [Int.add_mul, Int.one_mul] at e5
    omega
  · have e1 : 0 ≤ 2 * v' * s'.n := Int.mul_nonneg (by omega) (by omega)
    have e3 : 72 * l' * (2 * s'.d) = 144 * l' * s'.d := by
      calc 72 * l' * (2 * s'.d) = (72 * 2) * (l' * s'.d) := by ac_rfl
        _ = 144 * (l' * s'.d) := rfl
        _ = 144 * l' * s'.d := by rw [Int.mul_assoc]
    omega
/-- What a box spans. -/
def Bxv.xe (b : Bxv) : Fr := b.x.add b.w
def Bxv.ye (b : Bxv) : Fr := b.y.add b.h
def crossP (a b : Bxv) : Prop := (a.x.lt b.xe ∧ b.x.lt a.xe) ∧ a.y.lt b.ye ∧ b.y.lt a.ye
def holdsP (a b : Bxv) : Prop := (¬ b.x.lt a.x ∧ ¬ a.xe.lt b.xe) ∧ ¬ b.y.lt a.y ∧ ¬ a.ye.lt b.ye
/-- Where a spot begins along and across. -/
def boxA (s : Fr) (c : Int × Int) (v : Int) : Fr := plA s c.2 v
section
variable {way : Int} {rows : Bool} {s : Fr} {c : Int × Int} {cr : Int} {n : Nd} {p : Spot}
theorem box_w : (boxOf way rows s c cr n p).w = frR (p.w * s.n) s.d := rfl
theorem box_h : (boxOf way rows s c cr n p).h = frR (p.h * s.n) s.d := rfl
theorem box_y : (boxOf way rows s c cr n p).y = if rows then plC s c.1 cr p.y else plA s c.2 p.y := rfl
theorem box_ye (hs : ScOk s) : (boxOf way rows s c cr n p).ye = if rows then plC s c.1 cr (p.y + p.h) else plA s c.2 (p.y + p.h) := by
  unfold Bxv.ye
  rw [box_y, box_h]
  cases rows with
  | true => rw [if_pos rfl, if_pos rfl, plC_add hs]
  | false => rw [if_neg (by decide), if_neg (by decide), plA_add hs]
theorem box_x (hs : ScOk s) : (boxOf way rows s c cr n p).x = if way % 2 = 0 then (if rows then plA s c.2 (p.x + p.w) else plC s c.1 cr (p.x + p.w)).neg else (if rows then plA s c.2 p.x else plC s c.1 cr p.x) := by
  unfold boxOf
  simp only []
  split
  · congr 1
    cases rows with
    | true => rw [if_pos rfl, if_pos rfl, plA_add hs]
    | false => rw [if_neg (by decide), if_neg (by decide), plC_add hs]
  · rfl
theorem box_xe (hs : ScOk s) : (boxOf way rows s c cr n p).xe = if way % 2 = 0 then (if rows then plA s c.2 p.x else plC s c.1 cr p.x).neg else (if rows then plA s c.2 (p.x + p.w) else plC s c.1 cr (p.x + p.w)) := by
  unfold Bxv.xe
  rw [box_x hs, box_w]
  split
  · cases rows with
    | true =>
      rw [if_pos rfl, if_pos rfl]
      have := neg_back hs (x := plA s c.2 p.x) (A := 2 * c.2 * s.d + 2 * p.x * s.n) (w := p.w) rfl
      rw [← this]
      congr 2
      unfold plA
      congr 1
      rw [Int.mul_add, Int.add_mul]
      omega
    | false =>
      rw [if_neg (by decide), if_neg (by decide)]
      have := neg_back hs (x := plC s c.1 cr p.x) (A := 144 * c.1 * s.d + 48 * s.d - cr * s.n + 2 * p.x * s.n) (w := p.w) rfl
      rw [← this]
      congr 2
      unfold plC
      congr 1
      rw [Int.mul_add, Int.add_mul]
      omega
  · cases rows with
    | true => rw [if_pos rfl, if_pos rfl, plA_add hs]
    | false => rw [if_neg (by decide), if_neg (by decide), plC_add hs]
end
/-- A place in one of the two directions. -/
def plX (rows : Bool) (s : Fr) (c : Int × Int) (cr v : Int) : Fr := if rows then plA s c.2 v else plC s c.1 cr v
def plY (rows : Bool) (s : Fr) (c : Int × Int) (cr v : Int) : Fr := if rows then plC s c.1 cr v else plA s c.2 v
theorem plX_le {rows : Bool} {s : Fr} (hs : ScOk s) {c : Int × Int} {cr v v' : Int} (h : v ≤ v') : ¬ (plX rows s c cr v').lt (plX rows s c cr v) := by
  unfold plX
  cases rows with
  | true => rw [if_pos rfl, if_pos rfl]; exact plA_le hs h
  | false => rw [if_neg (by decide), if_neg (by decide)]; exact plC_le hs h
theorem plY_le {rows : Bool} {s : Fr} (hs : ScOk s) {c : Int × Int} {cr v v' : Int} (h : v ≤ v') : ¬ (plY rows s c cr v').lt (plY rows s c cr v) := by
  unfold plY
  cases rows with
  | true => rw [if_pos rfl, if_pos rfl]; exact plC_le hs h
  | false => rw [if_neg (by decide), if_neg (by decide)]; exact plA_le hs h
section
variable {way : Int} {rows : Bool} {s s' : Fr} {c c' : Int × Int} {cr cr' : Int} {n n' : Nd} {p q : Spot}
theorem x_apart (hs : ScOk s) (hs' : ScOk s') (h : ¬ (plX rows s' c' cr' q.x).lt (plX rows s c cr (p.x + p.w))) : ¬ crossP (boxOf way rows s c cr n p) (boxOf way rows s' c' cr' n' q) := fun hc => by
  obtain ⟨⟨h1, h2⟩, _⟩ := hc
  rw [box_x hs, box_xe hs'] at h1
  rw [box_x hs', box_xe hs] at h2
  by_cases hw : way % 2 = 0
  · rw [if_pos hw, if_pos hw, neg_lt] at h1
    exact h h1
  · rw [if_neg hw, if_neg hw] at h2
    exact h h2
theorem y_apart (hs : ScOk s) (h : ¬ (plY rows s' c' cr' q.y).lt (plY rows s c cr (p.y + p.h))) : ¬ crossP (boxOf way rows s c cr n p) (boxOf way rows s' c' cr' n' q) := fun hc => by
  obtain ⟨_, _, h2⟩ := hc
  rw [box_y, box_ye hs] at h2
  exact h h2
/-- Two spots of a group that stand apart. -/
theorem grp_apart (hs : ScOk s) (h : p.x + p.w ≤ q.x ∨ p.y + p.h ≤ q.y) : ¬ crossP (boxOf way rows s c cr n p) (boxOf way rows s c cr n' q) := by
  rcases h with h | h
  · exact x_apart hs hs (plX_le hs h)
  · exact y_apart hs (plY_le hs h)
/-- A spot within another one. -/
theorem grp_holds (hs : ScOk s) (h : q.within p.x p.y p.w p.h) : holdsP (boxOf way rows s c cr n p) (boxOf way rows s c cr n' q) := by
  have e1 := h.x1; have e2 := h.x2; have e3 := h.y1; have e4 := h.y2
  refine ⟨⟨?_, ?_⟩, ?_, ?_⟩
  · rw [box_x hs, box_x hs]
    by_cases hw : way % 2 = 0
    · rw [if_pos hw, if_pos hw, neg_lt]
      exact plX_le (rows := rows) (c := c) (cr := cr) hs e2
    · rw [if_neg hw, if_neg hw]
      exact plX_le (rows := rows) (c := c) (cr := cr) hs e1
  · rw [box_xe hs, box_xe hs]
    by_cases hw : way % 2 = 0
    · rw [if_pos hw, if_pos hw, neg_lt]
      exact plX_le (rows := rows) (c := c) (cr := cr) hs e1
    · rw [if_neg hw, if_neg hw]
      exact plX_le (rows := rows) (c := c) (cr := cr) hs e2
  · rw [box_y, box_y]
    exact plY_le (rows := rows) (c := c) (cr := cr) hs e3
  · rw [box_ye hs, box_ye hs]
    exact plY_le (rows := rows) (c := c) (cr := cr) hs e4
end
/-- The states of the groups, one behind the other. -/
structure After (len : Int) (x : Fr) (a b : Int × Int) : Prop where
  lines : a.1 ≤ b.1
  same : a.1 = b.1 → a.2 + 24 + ceilF x ≤ b.2
theorem stq_mono {len : Int} {st : Int × Int} {x : Fr} : st.1 ≤ (stq len st x).1 ∧ ((stq len st x).1 = st.1 → (stq len st x).2 = st.2) := by
  unfold stq
  split
  · exact ⟨by show st.1 ≤ st.1 + 1; omega, fun h => by have : st.1 + 1 = st.1 := h; omega⟩
  · exact ⟨Int.le_refl _, fun _ => rfl⟩
theorem stands_after {len : Int} : ∀ (xs : List Fr) (st : Int × Int), (∀ x ∈ xs, 0 ≤ ceilF x) → ∀ c ∈ stands len xs st, st.1 ≤ c.1 ∧ (st.1 = c.1 → st.2 ≤ c.2)
  | [], _, _, c, h => by simp [stands] at h
  | x :: xs, st, hx, c, h => by
    rw [stands] at h
    have hm := stq_mono (len := len) (st := st) (x := x)
    rcases List.mem_cons.1 h with rfl | h
    · exact ⟨hm.1, fun e => by have := hm.2 e.symm; omega⟩
    · have ih := stands_after xs _ (fun y hy => hx y (by simp [hy])) c h
      unfold stn at ih
      simp only [] at ih
      have hc := hx x (by simp)
      refine ⟨by omega, fun e => ?_⟩
      have e1 : (stq len st x).1 = st.1 := by omega
      have := hm.2 e1
      have := ih.2 (by omega)
      omega
theorem stands_pair {len : Int} : ∀ (xs : List Fr) (st : Int × Int), (∀ x ∈ xs, 0 ≤ ceilF x) → (List.zip xs (stands len xs st)).Pairwise fun a b => After len a.1 a.2 b.2
  | [], _, _ => by simp [stands]
  | x :: xs, st, hx => by
    rw [stands, List.zip_cons_cons]
    refine List.Pairwise.cons (fun b hb => ?_) (stands_pair xs _ fun y hy => hx y (by simp [hy]))
    have hb2 := (List.of_mem_zip hb).2
    have h := stands_after xs _ (fun y hy => hx y (by simp [hy])) _ hb2
    unfold stn at h
    exact ⟨h.1, h.2⟩
end Go.Proofs.Ytfkcpcdndleboaa

/- PLAIN LAW: the boxes of a layout, two by two. -/
namespace Go.Proofs.Ytfkcpcdndleboaa
/-- A spot of a group that stands somewhere. -/
structure Itm where
  g : Nat
  c : Int × Int
  p : Spot
section
variable (ss : List Sg) (l : List Nd) (rows : Bool)
noncomputable def Itm.box (way : Int) (t : Itm) : Bxv := boxOf way rows (gS ss l rows t.g) t.c (gCr ss l rows t.g) (nd l t.p.node) t.p
def grpIt (i : Nat) (c : Int × Int) : List Itm := (spotsN ss l rows l.length i 0 0).map fun p => ⟨i, c, p⟩
noncomputable def layIt (len : Int) : List Itm := ((List.zip (kidsOf l (-1)) (layS ss l rows len)).map fun x => grpIt ss l rows x.1 x.2).flatten
end
theorem zip_with {α β γ : Type} (f : α → β → γ) : ∀ (a : List α) (b : List β), List.zipWith f a b = (List.zip a b).map fun x => f x.1 x.2
  | [], _ => by simp
  | _ :: _, [] => by simp
  | x :: a, y :: b => by rw [List.zipWith_cons_cons, List.zip_cons_cons, List.map_cons, zip_with f a b]
theorem lay_it {ss : List Sg} {l : List Nd} {rows : Bool} (way len : Int) : layBx ss l rows way len = (layIt ss l rows len).map (Itm.box ss l rows way) := by
  unfold layBx layIt
  rw [List.map_flatten, List.map_map, zip_with]
  congr 1
  refine List.map_congr_left fun x _ => ?_
  show grpBx ss l rows way x.1 x.2 = (grpIt ss l rows x.1 x.2).map (Itm.box ss l rows way)
  unfold grpBx grpIt
  rw [List.map_map]
  rfl
theorem grp_mem {l : List Nd} {i : Nat} (h : i ∈ kidsOf l (-1)) : i < l.length := by have := (kidsOf_mem (l := l) (node := -1) (by omega) (by omega) h).2; omega
section
variable {P : Int} {ss : List Sg} {l : List Nd} {rows : Bool} (hp : Pln P ss l)
include hp
theorem gZ_ok {i : Nat} (hi : i < l.length) : SzOk 26380 (gZ ss l rows i) := by
  refine (szN_ok (rows := rows) hp l.length i hi (by omega)).more ?_
  have h1 := hp.len
  have h2 : spn l i ≤ l.length := by unfold spn; have := endOf_le hi; omega
  omega
theorem gS_ok {i : Nat} (hi : i < l.length) : ScOk (gS ss l rows i) := scl_ok (gZ_ok hp hi) (by omega)
theorem gAl_ok {i : Nat} (hi : i < l.length) : 4 ≤ gAl ss l rows i ∧ gAl ss l rows i ≤ 26380 := by
  have h := gZ_ok (rows := rows) hp hi
  have a1 := h.p1; have a2 := h.p2; have b1 := h.b1; have b2 := h.b2
  unfold gAl
  split <;> omega
theorem gCr_ok {i : Nat} (hi : i < l.length) : 4 ≤ gCr ss l rows i ∧ gCr ss l rows i ≤ 26380 ∧ gCr ss l rows i * (gS ss l rows i).n ≤ 48 * (gS ss l rows i).d := by
  have h := gZ_ok (rows := rows) hp hi
  have a1 := h.p1; have a2 := h.p2; have b1 := h.b1; have b2 := h.b2
  have hf := scl_fit (rows := rows) (n := nd l i) h (by omega)
  unfold gCr gS
  cases rows with
  | true => rw [if_pos rfl]; exact ⟨a2, b2, hf.1 rfl⟩
  | false => rw [if_neg (by decide)]; exact ⟨a1, b1, hf.2 rfl⟩
theorem gL_ok {i : Nat} (hi : i < l.length) : LgOk (gL ss l rows i) := by
  have := gAl_ok (rows := rows) hp hi
  exact LgOk.of (gS_ok hp hi) (by omega) (by omega)
theorem spot_bd {i : Nat} (hi : i < l.length) {p : Spot} (h : p ∈ spotsN ss l rows l.length i 0 0) : (0 ≤ p.x ∧ 0 ≤ p.y ∧ 2 ≤ p.w ∧ 2 ≤ p.h) ∧ p.x + p.w ≤ (gZ ss l rows i).1 ∧ p.y + p.h ≤ (gZ ss l rows i).2 := by
  have h1 := spots_in (rows := rows) hp l.length i hi (by omega) 0 0 p h
  have a1 := h1.x1; have a2 := h1.y1; have a3 := h1.x2; have a4 := h1.y2
  refine ⟨⟨a1, a2, h1.w0, h1.h0⟩, ?_, ?_⟩
  · show _ ≤ (szN ss l rows l.length i).1; omega
  · show _ ≤ (szN ss l rows l.length i).2; omega
/-- How two items lie. -/
theorem lay_pair (way len : Int) : (layIt ss l rows len).Pairwise fun a b => crossP (a.box ss l rows way) (b.box ss l rows way) → holdsP (a.box ss l rows way) (b.box ss l rows way) ∧ (kd l a.p.node = 5 ∨ (1 ≤ a.p.node ∧ kd l (a.p.node - 1) = 4 ∧ b.p.node = a.p.node + 1)) := by
  unfold layIt
  rw [List.pairwise_flatten]
  constructor
  · intro L hL
    obtain ⟨x, hx, rfl⟩ := List.mem_map.1 hL
    have hi := grp_mem (List.of_mem_zip hx).1
    have hs := gS_ok (rows := rows) hp hi
    unfold grpIt
    rw [List.pairwise_map]
    refine (spots_pair (rows := rows) hp l.length x.1 hi (by omega) 0 0).imp ?_
    intro p q hpq hc
    rcases hpq with h | ⟨h, h2⟩
    · exact absurd hc (grp_apart hs h)
    · exact ⟨grp_holds hs h, h2⟩
  · rw [List.pairwise_map]
    have hce : ∀ x ∈ (kidsOf l (-1)).map (gL ss l rows), 0 ≤ ceilF x := fun x hx => by
      obtain ⟨i, hi, rfl⟩ := List.mem_map.1 hx
      have := (ceil_bd (gL_ok (rows := rows) hp (grp_mem hi))).1
      omega
    have hpw := stands_pair (len := len) ((kidsOf l (-1)).map (gL ss l rows)) (0, 0) hce
    rw [List.zip_map_left, List.pairwise_map] at hpw
    have hpw2 : (List.zip (kidsOf l (-1)) (layS ss l rows len)).Pairwise fun a b => After len (gL ss l rows a.1) a.2 b.2 := hpw
    refine List.Pairwise.imp_of_mem ?_ hpw2
    intro x y hx hy hxy a ha b hb hc
    exfalso
    have hi := grp_mem (List.of_mem_zip hx).1
    have hj := grp_mem (List.of_mem_zip hy).1
    have hs := gS_ok (rows := rows) hp hi
    have hs' := gS_ok (rows := rows) hp hj
    unfold grpIt at ha hb
    obtain ⟨p, hp1, rfl⟩ := List.mem_map.1 ha
    obtain ⟨q, hq1, rfl⟩ := List.mem_map.1 hb
    obtain ⟨⟨p1, p2, p3, p4⟩, p5, p6⟩ := spot_bd hp hi hp1
    obtain ⟨⟨q1, q2, q3, q4⟩, q5, q6⟩ := spot_bd hp hj hq1
    have c1 := gCr_ok (rows := rows) hp hi
    have c2 := gCr_ok (rows := rows) hp hj
    have hl := ceil_bd (gL_ok (rows := rows) hp hi)
    rcases Int.lt_or_eq_of_le hxy.lines with h | h
    · -- another line
      cases hr : rows with
      | true =>
        subst hr
        refine y_apart hs ?_ hc
        unfold plY
        rw [if_pos rfl, if_pos rfl]
        exact plC_two hs hs' h (by show p.y + p.h ≤ (gZ ss l true x.1).2; exact p6) c1.2.2 c2.2.2 q2
      | false =>
        subst hr
        refine x_apart hs hs' ?_ hc
        unfold plX
        rw [if_neg (by decide), if_neg (by decide)]
        exact plC_two hs hs' h (by show p.x + p.w ≤ (gZ ss l false x.1).1; exact p5) c1.2.2 c2.2.2 q1
    · -- the same line
      have hsm := hxy.same h
      have hd := hs.d0
      have hal : gAl ss l rows x.1 * (gS ss l rows x.1).n ≤ (y.2.2 - x.2.2) * (gS ss l rows x.1).d := by
        have e1 := frR_cross (n := gAl ss l rows x.1 * (gS ss l rows x.1).n) hd
        have e2 := hl.2.2
        have e3 : (gL ss l rows x.1) = frR (gAl ss l rows x.1 * (gS ss l rows x.1).n) (gS ss l rows x.1).d := rfl
        rw [← e3] at e1
        have hxd := (gL_ok (rows := rows) hp hi).d0
        generalize gL ss l rows x.1 = L at *
        generalize gAl ss l rows x.1 * (gS ss l rows x.1).n = A at *
        generalize (gS ss l rows x.1).d = D at *
        have t1 : L.n * D ≤ ceilF L * L.d * D := Int.mul_le_mul_of_nonneg_right e2 (by omega)
        have t2 : ceilF L * L.d * D = ceilF L * D * L.d := by ac_rfl
        rw [e1, t2] at t1
        have t3 : A ≤ ceilF L * D := Int.le_of_mul_le_mul_right t1 hxd
        have t4 : ceilF L * D ≤ (y.2.2 - x.2.2) * D := Int.mul_le_mul_of_nonneg_right (by omega) (by omega)
        omega
      cases hr : rows with
      | true =>
        subst hr
        refine x_apart hs hs' ?_ hc
        unfold plX
        rw [if_pos rfl, if_pos rfl]
        exact plA_two hs hs' (al := gAl ss l true x.1) (by show p.x + p.w ≤ (gZ ss l true x.1).1; exact p5) hal q1
      | false =>
        subst hr
        refine y_apart hs ?_ hc
        unfold plY
        rw [if_neg (by decide), if_neg (by decide)]
        exact plA_two hs hs' (al := gAl ss l false x.1) (by show p.y + p.h ≤ (gZ ss l false x.1).2; exact p6) hal q2
end
end Go.Proofs.Ytfkcpcdndleboaa

/- PLAIN LAW: groups where they stand, in a row; boxes in a row. -/
namespace Go.Proofs.Ytfkcpcdndleboaa
open Go.RowKit
/-- A group where it stands. -/
structure Gp where
  node : Nat
  s : Fr
  c : Int × Int
def gpC (g : Gp) : List Value := [.int .i64 g.node, .int .i64 g.s.n, .int .i64 g.s.d, .int .i64 g.c.1, .int .i64 g.c.2]
def flatG (L : List Gp) : List Value := L.flatMap gpC
theorem flatG_app (L M : List Gp) : flatG (L ++ M) = flatG L ++ flatG M := List.flatMap_append ..
theorem flatG_one (s : Gp) : flatG [s] = gpC s := by unfold flatG; simp
theorem flatG_len (L : List Gp) : (flatG L).length = L.length * 5 := by
  induction L with
  | nil => rfl
  | cons x L ih => unfold flatG at ih ⊢; rw [List.flatMap_cons, List.length_append, ih, List.length_cons]; unfold gpC; simp; omega
theorem flatG_get : ∀ (L : List Gp) (k j : Nat) (hk : k < L.length), j < 5 → (flatG L)[k * 5 + j]? = (gpC L[k])[j]?
  | g :: L, 0, j, _, hj => by
    unfold flatG
    rw [List.flatMap_cons, List.getElem?_append_left (by unfold gpC; simp; omega)]
    simp
  | g :: L, k + 1, j, hk, hj => by
    have ih := flatG_get L k j (by simpa using hk) hj
    unfold flatG at ih ⊢
    rw [List.flatMap_cons, List.getElem?_append_right (by unfold gpC; simp; omega), List.getElem_cons_succ, ← ih]
    congr 1
    unfold gpC
    simp
    omega
/-- A box, as fifteen cells. -/
def bxC (b : Bxv) : List Value := [.int .i64 b.nd.kind, .int .i64 b.nd.sign, .int .i64 b.nd.turn, .bool b.nd.mir, .int .i64 b.nd.state, .int .i64 b.nd.mn, .int .i64 b.nd.mx, .int .i64 b.x.n, .int .i64 b.x.d, .int .i64 b.y.n, .int .i64 b.y.d, .int .i64 b.w.n, .int .i64 b.w.d, .int .i64 b.h.n, .int .i64 b.h.d]
def flatB (L : List Bxv) : List Value := L.flatMap bxC
theorem flatB_app (L M : List Bxv) : flatB (L ++ M) = flatB L ++ flatB M := List.flatMap_append ..
theorem flatB_one (s : Bxv) : flatB [s] = bxC s := by unfold flatB; simp
section
variable (ss : List Sg) (l : List Nd) (rows : Bool) (len : Int)
noncomputable def grpL : List Gp := List.zipWith (fun i c => ⟨i, gS ss l rows i, c⟩) (kidsOf l (-1)) (layS ss l rows len)
/-- The first groups, and where the next one could begin. -/
noncomputable def grpJ (j : Nat) : List Gp := List.zipWith (fun i c => ⟨i, gS ss l rows i, c⟩) ((kidsOf l (-1)).take j) (stands len (((kidsOf l (-1)).take j).map (gL ss l rows)) (0, 0))
noncomputable def stJ (j : Nat) : Int × Int := stEnd len (((kidsOf l (-1)).take j).map (gL ss l rows)) (0, 0)
end
section
variable {ss : List Sg} {l : List Nd} {rows : Bool} {len : Int}
theorem take_s {α : Type} {xs : List α} {j : Nat} (h : j < xs.length) : xs.take (j + 1) = xs.take j ++ [xs[j]] := by rw [List.take_add_one, List.getElem?_eq_getElem h]; rfl
theorem grpJ_0 : grpJ ss l rows len 0 = [] := rfl
theorem stJ_0 : stJ ss l rows len 0 = (0, 0) := rfl
theorem grpJ_s {j : Nat} (h : j < (kidsOf l (-1)).length) : grpJ ss l rows len (j + 1) = grpJ ss l rows len j ++ [⟨(kidsOf l (-1))[j], gS ss l rows (kidsOf l (-1))[j], stq len (stJ ss l rows len j) (gL ss l rows (kidsOf l (-1))[j])⟩] := by
  unfold grpJ stJ
  rw [take_s h, List.map_append, List.map_cons, List.map_nil, stands_snoc, List.zipWith_append (by rw [stands_len, List.length_map])]
  rfl
theorem stJ_s {j : Nat} (h : j < (kidsOf l (-1)).length) : stJ ss l rows len (j + 1) = stn (stq len (stJ ss l rows len j) (gL ss l rows (kidsOf l (-1))[j])) (gL ss l rows (kidsOf l (-1))[j]) := by
  unfold stJ
  rw [take_s h, List.map_append, List.map_cons, List.map_nil, stEnd_snoc]
theorem grpJ_end : grpJ ss l rows len (kidsOf l (-1)).length = grpL ss l rows len := by
  unfold grpJ grpL layS
  rw [List.take_length]
theorem grpJ_len {j : Nat} (h : j ≤ (kidsOf l (-1)).length) : (grpJ ss l rows len j).length = j := by
  unfold grpJ
  rw [List.length_zipWith, stands_len, List.length_map, List.length_take]
  omega
theorem grpL_len : (grpL ss l rows len).length = (kidsOf l (-1)).length := by rw [← grpJ_end, grpJ_len (Nat.le_refl _)]
theorem stJ_ok {P : Int} (hp : Pln P ss l) (hl : 0 ≤ len) {j : Nat} (h : j ≤ (kidsOf l (-1)).length) : StOk len j (stJ ss l rows len j) := by
  have h0 : StOk len 0 (0, 0) := ⟨Int.le_refl _, Int.le_refl _, Int.le_refl _, by show 0 ≤ len + 26424; omega⟩
  have := stEnd_ok hl (((kidsOf l (-1)).take j).map (gL ss l rows)) 0 (0, 0) h0 fun x hx => by
    obtain ⟨i, hi, rfl⟩ := List.mem_map.1 hx
    exact gL_ok hp (grp_mem (List.mem_of_mem_take hi))
  rw [List.length_map, List.length_take, Nat.zero_add, Nat.min_eq_left h] at this
  exact this
theorem grpL_get {j : Nat} (h : j < (grpL ss l rows len).length) : ∃ (h2 : j < (kidsOf l (-1)).length) (h3 : j < (layS ss l rows len).length), (grpL ss l rows len)[j] = ⟨(kidsOf l (-1))[j], gS ss l rows (kidsOf l (-1))[j], (layS ss l rows len)[j]⟩ := by
  have h2 : j < (kidsOf l (-1)).length := by rw [← grpL_len (ss := ss) (rows := rows) (len := len)]; exact h
  have h3 : j < (layS ss l rows len).length := by unfold layS; rw [stands_len, List.length_map]; exact h2
  exact ⟨h2, h3, List.getElem_zipWith ..⟩
theorem layBx_grp (way : Int) : layBx ss l rows way len = (grpL ss l rows len).flatMap fun g => grpBx ss l rows way g.node g.c := by
  unfold layBx grpL
  generalize layS ss l rows len = cs
  generalize kidsOf l (-1) = ks
  induction ks generalizing cs with
  | nil => rfl
  | cons k ks ih =>
    cases cs with
    | nil => rfl
    | cons c cs => rw [List.zipWith_cons_cons, List.zipWith_cons_cons, List.flatten_cons, List.flatMap_cons, ih]
end
end Go.Proofs.Ytfkcpcdndleboaa
