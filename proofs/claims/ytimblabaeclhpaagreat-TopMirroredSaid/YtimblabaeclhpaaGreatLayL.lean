/- PLAIN LAW: the natural sizes of nodes, and where leaves and rings stand in a group. -/
import Derived.Test.YtimblabaeclhpaaGreatFlt
import Derived.Test.YtimblabaeclhpaaGreatNumW
namespace Go.Proofs.YtimblabaeclhpaaGreat
/-- The natural size of a leaf. -/
def leafSz (ss : List Sg) (n : Nd) : Int × Int :=
  if n.kind = 6 then (12 * n.mx, 24) else if n.turn % 2 = 1 then (4 * (sg ss n.sign.toNat).high, 4 * (sg ss n.sign.toNat).wide) else (4 * (sg ss n.sign.toNat).wide, 4 * (sg ss n.sign.toNat).high)
/-- The space between the kids of a node. -/
def spcOf (n : Nd) : Int := if n.kind = 5 then 20 else 4 * (5 - n.depth)
/-- Do the kids of a node stand side by side? -/
def acr (rows : Bool) (n : Nd) : Bool := decide (n.kind = 2) || (decide (n.kind = 5) && rows)
def sumI (xs : List Int) : Int := xs.foldl (· + ·) 0
def maxI (xs : List Int) : Int := xs.foldl max 0
/-- The size of kids that stand side by side, or one above the other. -/
def putS (a : Bool) (sp : Int) (zs : List (Int × Int)) : Int × Int :=
  if a then (sp * ((zs.length : Int) - 1) + sumI (zs.map Prod.fst), maxI (zs.map Prod.snd)) else (maxI (zs.map Prod.fst), sp * ((zs.length : Int) - 1) + sumI (zs.map Prod.snd))
/-- The natural size of a node; a ring's without its border. -/
def inZ (rows : Bool) (l : List Nd) (z : Nat → Int × Int) (i : Nat) : Int × Int := putS (acr rows (nd l i)) (spcOf (nd l i)) ((kidsOf l (i : Int)).map z)
def szN (ss : List Sg) (l : List Nd) (rows : Bool) : Nat → Nat → Int × Int
  | 0, _ => (0, 0)
  | f + 1, i => if leafB (kd l i) = true then leafSz ss (nd l i) else if kd l i = 4 then leafSz ss (nd l (i + 1)) else
    if kd l i = 5 then ((inZ rows l (szN ss l rows f) i).1 + 24, (inZ rows l (szN ss l rows f) i).2 + 24) else inZ rows l (szN ss l rows f) i
theorem sumI_nil : sumI [] = 0 := rfl
theorem foldl_add (xs : List Int) : ∀ a : Int, xs.foldl (· + ·) a = a + xs.foldl (· + ·) 0 := by
  induction xs with
  | nil => intro a; simp
  | cons x xs ih => intro a; rw [List.foldl_cons, List.foldl_cons, ih, ih (0 + x)]; omega
theorem sumI_cons (x : Int) (xs : List Int) : sumI (x :: xs) = x + sumI xs := by
  unfold sumI
  rw [List.foldl_cons, foldl_add]
  omega
theorem sumI_snoc (xs : List Int) (x : Int) : sumI (xs ++ [x]) = sumI xs + x := by
  unfold sumI
  rw [List.foldl_append]
  rfl
theorem maxI_snoc (xs : List Int) (x : Int) : maxI (xs ++ [x]) = max (maxI xs) x := by
  unfold maxI
  rw [List.foldl_append]
  rfl
theorem foldl_max (xs : List Int) : ∀ a : Int, a ≤ xs.foldl max a ∧ (∀ x ∈ xs, x ≤ xs.foldl max a) ∧ (xs.foldl max a = a ∨ xs.foldl max a ∈ xs) := by
  induction xs with
  | nil => intro a; exact ⟨Int.le_refl _, fun x h => by simp at h, .inl rfl⟩
  | cons x xs ih =>
    intro a
    obtain ⟨h1, h2, h3⟩ := ih (max a x)
    rw [List.foldl_cons]
    refine ⟨by omega, fun y hy => ?_, ?_⟩
    · rcases List.mem_cons.1 hy with rfl | hy
      · omega
      · exact h2 y hy
    · rcases h3 with h3 | h3
      · rcases Int.le_total a x with h | h
        · right; rw [h3, Int.max_eq_right h]; exact List.mem_cons_self ..
        · left; rw [h3, Int.max_eq_left h]
      · right; exact List.mem_cons_of_mem _ h3
/-- What the sizes of a text are. -/
structure SzOk (B : Int) (z : Int × Int) : Prop where
  p1 : 4 ≤ z.1
  p2 : 4 ≤ z.2
  m1 : z.1 % 4 = 0
  m2 : z.2 % 4 = 0
  b1 : z.1 ≤ B
  b2 : z.2 ≤ B
theorem SzOk.more {B B' : Int} {z : Int × Int} (h : SzOk B z) (hb : B ≤ B') : SzOk B' z := ⟨h.p1, h.p2, h.m1, h.m2, by have := h.b1; omega, by have := h.b2; omega⟩
theorem sum_ok {sp : Int} (hsp : 4 ≤ sp ∧ sp ≤ 20 ∧ sp % 4 = 0) {s : Nat → Nat} : ∀ (ks : List Nat) (z : Nat → Int), (∀ k ∈ ks, 4 ≤ z k ∧ z k % 4 = 0 ∧ z k ≤ 132 * (s k : Int) - 20) → ks ≠ [] →
    4 ≤ sp * ((ks.length : Int) - 1) + sumI (ks.map z) ∧ (sp * ((ks.length : Int) - 1) + sumI (ks.map z)) % 4 = 0 ∧ sp * ((ks.length : Int) - 1) + sumI (ks.map z) ≤ 132 * ((ks.map s).sum : Int) - 20
  | [], _, _, h => absurd rfl h
  | [k], z, h, _ => by
    have := h k (by simp)
    rw [List.map_cons, List.map_nil, sumI_cons, sumI_nil]
    simp
    omega
  | k :: k2 :: ks, z, h, _ => by
    have h1 := h k (by simp)
    have ih := sum_ok hsp (k2 :: ks) z (fun x hx => h x (by simp at hx ⊢; right; exact hx)) (by simp)
    rw [List.map_cons (f := z), sumI_cons, List.map_cons (f := s), List.sum_cons]
    generalize sumI ((k2 :: ks).map z) = S at ih
    generalize (((k2 :: ks).map s).sum) = T at ih
    have e : (((k :: k2 :: ks).length : Nat) : Int) - 1 = (((k2 :: ks).length : Nat) : Int) - 1 + 1 := by simp only [List.length_cons]; omega
    rw [e, Int.mul_add, Int.mul_one]
    generalize sp * ((((k2 :: ks).length : Nat) : Int) - 1) = M at ih
    refine ⟨by omega, by omega, ?_⟩
    simp only [Int.natCast_add]
    omega
theorem max_ok {B : Int} {s : Nat → Nat} (ks : List Nat) (z : Nat → Int) (h : ∀ k ∈ ks, 4 ≤ z k ∧ z k % 4 = 0 ∧ z k ≤ 132 * (s k : Int) - 20) (hne : ks ≠ []) (hB : ∀ k ∈ ks, 132 * (s k : Int) - 20 ≤ B) :
    4 ≤ maxI (ks.map z) ∧ maxI (ks.map z) % 4 = 0 ∧ maxI (ks.map z) ≤ B := by
  obtain ⟨h1, h2, h3⟩ := foldl_max (ks.map z) 0
  unfold maxI
  cases ks with
  | nil => exact absurd rfl hne
  | cons k ks =>
    have h4 := h2 (z k) (by simp)
    have h5 := h k (by simp)
    rcases h3 with h3 | h3
    · omega
    · obtain ⟨j, hj, e⟩ := List.mem_map.1 h3
      have h6 := h j hj
      have h7 := hB j hj
      rw [← e]
      omega
theorem sg_size {P : Int} {ss : List Sg} (h : listE P ss = 0) {j : Nat} (hj : j < ss.length) : (1 ≤ (sg ss j).wide ∧ (sg ss j).wide ≤ 12) ∧ 1 ≤ (sg ss j).high ∧ (sg ss j).high ≤ 12 := by
  unfold listE at h
  split at h
  · omega
  · split at h
    · omega
    · have h1 := firstE_get h j hj
      unfold sgnE at h1
      split at h1
      · unfold sgE at h1
        split at h1
        · omega
        · rename_i h2
          exact Classical.not_not.1 h2
      · omega
/-- A node of a valid text. -/
theorem own_leaf {ss : List Sg} {l : List Nd} (hv : Val ss l) {i : Nat} (hi : i < l.length) : ((nd l i).kind = 1 → 0 ≤ (nd l i).sign ∧ (nd l i).sign < ss.length ∧ 0 ≤ (nd l i).turn ∧ (nd l i).turn ≤ 3) ∧ ((nd l i).kind = 6 → 1 ≤ (nd l i).mx ∧ (nd l i).mx ≤ 9) := by
  have h := hv.1 i hi
  unfold ownE at h
  generalize nd l i = n at h
  have hz := ndE_zero h
  unfold ndE at h
  rw [if_neg (by omega), if_neg (by omega)] at h
  constructor
  · intro h1
    rw [if_pos h1] at h
    split at h
    · omega
    · split at h
      · omega
      · omega
  · intro h6
    rw [if_neg (by omega), if_pos h6] at h
    split at h
    · omega
    · omega
theorem leaf_ok {P : Int} {ss : List Sg} {l : List Nd} (hs : listE P ss = 0) (hv : Val ss l) {i : Nat} (hi : i < l.length) (hk : leafB (kd l i) = true) : SzOk 108 (leafSz ss (nd l i)) := by
  obtain ⟨h1, h6⟩ := own_leaf hv hi
  rw [kd_at hi, ← nd_at hi] at hk
  generalize nd l i = n at *
  unfold leafB at hk
  simp only [Bool.or_eq_true, decide_eq_true_eq] at hk
  unfold leafSz
  rcases hk with hk | hk
  · obtain ⟨a1, a2, a3, a4⟩ := h1 hk
    have h3 := sg_size hs (j := n.sign.toNat) (by omega)
    generalize sg ss n.sign.toNat = s at h3
    rw [if_neg (by omega)]
    split
    · exact ⟨by show 4 ≤ 4 * s.high; omega, by show 4 ≤ 4 * s.wide; omega, by show 4 * s.high % 4 = 0; omega, by show 4 * s.wide % 4 = 0; omega, by show 4 * s.high ≤ 108; omega, by show 4 * s.wide ≤ 108; omega⟩
    · exact ⟨by show 4 ≤ 4 * s.wide; omega, by show 4 ≤ 4 * s.high; omega, by show 4 * s.wide % 4 = 0; omega, by show 4 * s.high % 4 = 0; omega, by show 4 * s.wide ≤ 108; omega, by show 4 * s.high ≤ 108; omega⟩
  · have a := h6 hk
    rw [if_pos hk]
    exact ⟨by show 4 ≤ 12 * n.mx; omega, by show (4 : Int) ≤ 24; omega, by show 12 * n.mx % 4 = 0; omega, by show (24 : Int) % 4 = 0; omega, by show 12 * n.mx ≤ 108; omega, by show (24 : Int) ≤ 108; omega⟩
/-- A text without an Honour. -/
structure Pln (P : Int) (ss : List Sg) (l : List Nd) : Prop where
  list : listE P ss = 0
  val : Val ss l
  len : l.length ≤ 200
  no7 : ∀ i, i < l.length → kd l i ≠ 7
/-- An Over has two leaves, the nodes behind it. -/
theorem over_kids {ss : List Sg} {l : List Nd} (hv : Val ss l) {i : Nat} (hi : i < l.length) (h4 : kd l i = 4) : kidsOf l (i : Int) = [i + 1, i + 2] ∧ i + 2 < l.length ∧ kd l (i + 1) = 1 ∧ kd l (i + 2) = 1 := by
  have hw := hv.good.wf
  obtain ⟨f1, _, _, f4⟩ := hv.2 i hi
  rw [h4] at f1 f4
  rw [if_neg (by decide), if_neg (by decide), if_pos rfl] at f1
  have hkid : ∀ j ∈ kidsOf l (i : Int), kd l j = 1 := fun j hj => by
    have h := f4 j hj
    rcases Int.lt_trichotomy (kd l j) 1 with h2 | h2 | h2
    · unfold kidOk at h; simp at h; omega
    · exact h2
    · unfold kidOk at h; simp at h; omega
  have hlf : ∀ j, kd l j = 1 → leafB (kd l j) = true := fun j h => by rw [h]; rfl
  unfold kidsOf at f1 hkid ⊢
  have hfr : kidsFr (i : Int) = i + 1 := if_pos (by omega)
  have hto : kidsTo l (i : Int) = endOf l i := if_pos (by omega)
  have hle := endOf_le hi
  rw [hfr, hto] at f1 hkid ⊢
  have a1 : i + 1 < endOf l i := by
    rcases Nat.lt_or_ge (i + 1) (endOf l i) with h | h
    · exact h
    · rw [kidsFrom_stop (by omega)] at f1; simp at f1
  rw [kidsFrom_s a1] at f1 hkid ⊢
  have k1 := hkid (i + 1) (by simp)
  have e1 := end_leaf hw (i := i + 1) (by omega) (hlf _ k1)
  rw [e1] at f1 hkid ⊢
  have a2 : i + 2 < endOf l i := by
    rcases Nat.lt_or_ge (i + 2) (endOf l i) with h | h
    · exact h
    · rw [kidsFrom_stop (by omega)] at f1; simp at f1
  rw [kidsFrom_s a2] at f1 hkid ⊢
  have k2 := hkid (i + 2) (by simp)
  have e2 := end_leaf hw (i := i + 2) (by omega) (hlf _ k2)
  rw [e2] at f1 ⊢
  have a3 : ¬ i + 3 < endOf l i := fun h => by rw [kidsFrom_s h] at f1; simp at f1
  rw [kidsFrom_stop a3]
  exact ⟨rfl, by omega, k1, k2⟩
/-- A node with kids has some. -/
theorem kids_ne {ss : List Sg} {l : List Nd} (hv : Val ss l) {i : Nat} (hi : i < l.length) (hk : leafB (kd l i) = false) : kidsOf l (i : Int) ≠ [] := fun h => by
  have h1 := (hv.2 i hi).1
  rw [h, hk, if_neg (by decide)] at h1
  simp only [List.length_nil] at h1
  split at h1
  · omega
  · split at h1 <;> omega
theorem spc_ok {ss : List Sg} {l : List Nd} (hv : Val ss l) {i : Nat} (hi : i < l.length) : 4 ≤ spcOf (nd l i) ∧ spcOf (nd l i) ≤ 20 ∧ spcOf (nd l i) % 4 = 0 := by
  have h := (own_zero hi (hv.1 i hi)).2.1
  rw [dep_at hi, ← nd_at hi] at h
  unfold spcOf
  split
  · omega
  · have : (nd l i).depth ≤ 4 := h.2
    omega
def spn (l : List Nd) (i : Nat) : Nat := endOf l i - i
theorem kids_spn {l : List Nd} {i : Nat} (hi : i < l.length) : ((kidsOf l (i : Int)).map (spn l)).sum + 1 ≤ spn l i := by
  have h := @kids_span l (kidsTo l (i : Int)) (kidsTo l (i : Int) - kidsFr (i : Int)) (kidsFr (i : Int)) fun x hx hx2 => end_in (by omega) (by omega) hx hx2
  have hfr : kidsFr (i : Int) = i + 1 := if_pos (by omega)
  have hto : kidsTo l (i : Int) = endOf l i := if_pos (by omega)
  have e : (kidsOf l (i : Int)).map (spn l) = (kidsR l (kidsTo l (i : Int)) (kidsTo l (i : Int) - kidsFr (i : Int)) (kidsFr (i : Int))).map fun x : Nat => span l (x : Int) := by
    unfold kidsOf kidsFrom
    refine List.map_congr_left fun x _ => ?_
    unfold spn span
    rw [if_pos (by omega)]
    rfl
  rw [e]
  have := endOf_gt l i
  rw [hfr, hto] at h ⊢
  unfold spn
  omega
theorem spn_pos (l : List Nd) (i : Nat) : 1 ≤ spn l i := by unfold spn; have := endOf_gt l i; omega
theorem mem_sum {s : Nat → Nat} : ∀ (ks : List Nat) (k : Nat), k ∈ ks → s k ≤ (ks.map s).sum
  | [], _, h => by simp at h
  | a :: ks, k, h => by
    rw [List.map_cons, List.sum_cons]
    rcases List.mem_cons.1 h with rfl | h
    · omega
    · have := mem_sum (s := s) ks k h
      omega
theorem szN_ok {P : Int} {ss : List Sg} {l : List Nd} {rows : Bool} (hp : Pln P ss l) : ∀ (f i : Nat), i < l.length → l.length ≤ f + i → SzOk (132 * (spn l i : Int) - 20) (szN ss l rows f i)
  | 0, i, h, h1 => by omega
  | f + 1, i, hi, hf => by
    have h1 := spn_pos l i
    unfold szN
    by_cases hk : leafB (kd l i) = true
    · rw [if_pos hk]
      exact (leaf_ok hp.list hp.val hi hk).more (by omega)
    · rw [if_neg hk]
      by_cases h4 : kd l i = 4
      · rw [if_pos h4]
        obtain ⟨_, a1, a2, _⟩ := over_kids hp.val hi h4
        exact (leaf_ok hp.list hp.val (i := i + 1) (by omega) (by rw [a2]; rfl)).more (by omega)
      · rw [if_neg h4]
        have hne := kids_ne hp.val hi (by simpa using hk)
        have hsp := spc_ok hp.val hi
        have hks := kids_spn hi
        have hmem : ∀ k ∈ kidsOf l (i : Int), i < k ∧ k < l.length := fun k hk => by
          have := kidsOf_mem (l := l) (node := (i : Int)) (by omega) (by omega) hk
          omega
        have ih : ∀ k ∈ kidsOf l (i : Int), SzOk (132 * (spn l k : Int) - 20) (szN ss l rows f k) := fun k hk => szN_ok hp f k (hmem k hk).2 (by have := hmem k hk; omega)
        have hB : ∀ k ∈ kidsOf l (i : Int), 132 * (spn l k : Int) - 20 ≤ 132 * (((kidsOf l (i : Int)).map (spn l)).sum : Int) - 20 := fun k hk => by
          have := mem_sum (s := spn l) _ k hk
          omega
        have s1 := sum_ok hsp (s := spn l) (kidsOf l (i : Int)) (fun k => (szN ss l rows f k).1) (fun k hk => ⟨(ih k hk).p1, (ih k hk).m1, (ih k hk).b1⟩) hne
        have s2 := sum_ok hsp (s := spn l) (kidsOf l (i : Int)) (fun k => (szN ss l rows f k).2) (fun k hk => ⟨(ih k hk).p2, (ih k hk).m2, (ih k hk).b2⟩) hne
        have m1 := max_ok (s := spn l) (kidsOf l (i : Int)) (fun k => (szN ss l rows f k).1) (fun k hk => ⟨(ih k hk).p1, (ih k hk).m1, (ih k hk).b1⟩) hne hB
        have m2 := max_ok (s := spn l) (kidsOf l (i : Int)) (fun k => (szN ss l rows f k).2) (fun k hk => ⟨(ih k hk).p2, (ih k hk).m2, (ih k hk).b2⟩) hne hB
        have hz : SzOk (132 * (spn l i : Int) - 132 - 20) (inZ rows l (szN ss l rows f) i) := by
          unfold inZ putS
          rw [List.length_map, List.map_map, List.map_map]
          have e1 : (Prod.fst ∘ szN ss l rows f) = fun k => (szN ss l rows f k).1 := rfl
          have e2 : (Prod.snd ∘ szN ss l rows f) = fun k => (szN ss l rows f k).2 := rfl
          rw [e1, e2]
          have hle : (((kidsOf l (i : Int)).map (spn l)).sum : Int) + 1 ≤ (spn l i : Int) := by omega
          split
          · exact ⟨s1.1, m2.1, s1.2.1, m2.2.1, by have := s1.2.2; show _ ≤ _; omega, by have := m2.2.2; show _ ≤ _; omega⟩
          · exact ⟨m1.1, s2.1, m1.2.1, s2.2.1, by have := m1.2.2; show _ ≤ _; omega, by have := s2.2.2; show _ ≤ _; omega⟩
        generalize inZ rows l (szN ss l rows f) i = z at hz
        have a1 := hz.p1; have a2 := hz.p2; have a3 := hz.m1; have a4 := hz.m2; have a5 := hz.b1; have a6 := hz.b2
        split
        · exact ⟨by show 4 ≤ z.1 + 24; omega, by show 4 ≤ z.2 + 24; omega, by show (z.1 + 24) % 4 = 0; omega, by show (z.2 + 24) % 4 = 0; omega, by show z.1 + 24 ≤ _; omega, by show z.2 + 24 ≤ _; omega⟩
        · exact hz.more (by omega)
end Go.Proofs.YtimblabaeclhpaaGreat

/- PLAIN LAW: where leaves and rings stand in a group, in the natural size. -/
namespace Go.Proofs.YtimblabaeclhpaaGreat
/-- A leaf or a ring, where it stands. -/
structure Spot where
  node : Nat
  x : Int
  y : Int
  w : Int
  h : Int
def kidSp (g : Nat → Int → Int → List Spot) (z : Nat → Int × Int) (a : Bool) (sp : Int) (Z : Int × Int) : List Nat → Int → Int → List Spot
  | [], _, _ => []
  | k :: ks, x, y => if a then g k x (y + (Z.2 - (z k).2) / 2) ++ kidSp g z a sp Z ks (x + (z k).1 + sp) y else g k (x + (Z.1 - (z k).1) / 2) y ++ kidSp g z a sp Z ks x (y + (z k).2 + sp)
def brd (n : Nd) : Int := if n.kind = 5 then 12 else 0
def spotsN (ss : List Sg) (l : List Nd) (rows : Bool) : Nat → Nat → Int → Int → List Spot
  | 0, _, _, _ => []
  | f + 1, i, x, y =>
    if leafB (kd l i) = true then [⟨i, x, y, (szN ss l rows (f + 1) i).1, (szN ss l rows (f + 1) i).2⟩]
    else if kd l i = 4 then [⟨i + 1, x, y, (szN ss l rows (f + 1) i).1, (szN ss l rows (f + 1) i).2⟩, ⟨i + 2, x + (szN ss l rows (f + 1) i).1 / 4, y + (szN ss l rows (f + 1) i).2 / 4, (szN ss l rows (f + 1) i).1 / 2, (szN ss l rows (f + 1) i).2 / 2⟩]
    else (if kd l i = 5 then [⟨i, x, y, (szN ss l rows (f + 1) i).1, (szN ss l rows (f + 1) i).2⟩] else []) ++
      kidSp (spotsN ss l rows f) (szN ss l rows f) (acr rows (nd l i)) (spcOf (nd l i)) (inZ rows l (szN ss l rows f) i) (kidsOf l (i : Int)) (x + brd (nd l i)) (y + brd (nd l i))
/-- How far along the first kids reach. -/
def offS (z : Nat → Int × Int) (a : Bool) (sp : Int) (ks : List Nat) : Int := sumI (ks.map fun k => (if a then (z k).1 else (z k).2) + sp)
theorem offS_cons (z : Nat → Int × Int) (a : Bool) (sp : Int) (k : Nat) (ks : List Nat) : offS z a sp (k :: ks) = (if a then (z k).1 else (z k).2) + sp + offS z a sp ks := by unfold offS; rw [List.map_cons, sumI_cons]
theorem offS_snoc (z : Nat → Int × Int) (a : Bool) (sp : Int) (k : Nat) (ks : List Nat) : offS z a sp (ks ++ [k]) = offS z a sp ks + ((if a then (z k).1 else (z k).2) + sp) := by unfold offS; rw [List.map_append, List.map_cons, List.map_nil, sumI_snoc]
theorem kidSp_snoc (g : Nat → Int → Int → List Spot) (z : Nat → Int × Int) (a : Bool) (sp : Int) (Z : Int × Int) (k : Nat) : ∀ (ks : List Nat) (x y : Int), kidSp g z a sp Z (ks ++ [k]) x y = kidSp g z a sp Z ks x y ++ (if a then g k (x + offS z a sp ks) (y + (Z.2 - (z k).2) / 2) else g k (x + (Z.1 - (z k).1) / 2) (y + offS z a sp ks))
  | [], x, y => by
    have e : offS z a sp [] = 0 := rfl
    rw [e, List.nil_append]
    unfold kidSp kidSp
    rw [Int.add_zero, Int.add_zero]
    split <;> simp
  | j :: ks, x, y => by
    rw [List.cons_append, kidSp, kidSp, offS_cons]
    cases a with
    | true =>
      rw [if_pos rfl, if_pos rfl, if_pos rfl, if_pos rfl, kidSp_snoc g z true sp Z k ks, if_pos rfl, List.append_assoc]
      have e : x + (z j).1 + sp + offS z true sp ks = x + ((z j).1 + sp + offS z true sp ks) := by omega
      rw [e]
    | false =>
      rw [if_neg (by decide), if_neg (by decide), if_neg (by decide), if_neg (by decide), kidSp_snoc g z false sp Z k ks, if_neg (by decide), List.append_assoc]
      have e : y + (z j).2 + sp + offS z false sp ks = y + ((z j).2 + sp + offS z false sp ks) := by omega
      rw [e]
/-- A spot lies in a rectangle. -/
structure Spot.within (s : Spot) (x y w h : Int) : Prop where
  x1 : x ≤ s.x
  y1 : y ≤ s.y
  x2 : s.x + s.w ≤ x + w
  y2 : s.y + s.h ≤ y + h
  w0 : 2 ≤ s.w
  h0 : 2 ≤ s.h
theorem Spot.within.more {s : Spot} {x y w h x' y' w' h' : Int} (a : s.within x y w h) (h1 : x' ≤ x) (h2 : y' ≤ y) (h3 : x + w ≤ x' + w') (h4 : y + h ≤ y' + h') : s.within x' y' w' h' :=
  ⟨by have := a.x1; omega, by have := a.y1; omega, by have := a.x2; omega, by have := a.y2; omega, a.w0, a.h0⟩
theorem kidSp_in {g : Nat → Int → Int → List Spot} {z : Nat → Int × Int} {a : Bool} {sp : Int} {Z : Int × Int} (hsp : 0 ≤ sp) : ∀ (ks : List Nat), (∀ k ∈ ks, 0 ≤ (z k).1 ∧ 0 ≤ (z k).2 ∧ (a = true → (z k).2 ≤ Z.2) ∧ (a = false → (z k).1 ≤ Z.1)) → (∀ k ∈ ks, ∀ x y, ∀ s ∈ g k x y, s.within x y (z k).1 (z k).2) →
    ∀ x y, ∀ s ∈ kidSp g z a sp Z ks x y, if a then s.within x y (offS z a sp ks - sp) Z.2 else s.within x y Z.1 (offS z a sp ks - sp)
  | [], _, _, x, y, s, h => by simp [kidSp] at h
  | k :: ks, hz, hg, x, y, s, h => by
    rw [kidSp] at h
    obtain ⟨z1, z2, z3, z4⟩ := hz k (by simp)
    have hn : 0 ≤ offS z a sp ks := by
      have : ∀ (js : List Nat), (∀ k ∈ js, 0 ≤ (z k).1 ∧ 0 ≤ (z k).2) → 0 ≤ offS z a sp js := by
        intro js
        induction js with
        | nil => intro _; exact Int.le_refl 0
        | cons j js ih =>
          intro h
          rw [offS_cons]
          have h1 := ih fun x hx => h x (by simp [hx])
          have h2 := h j (by simp)
          split <;> omega
      exact this ks fun j hj => ⟨(hz j (by simp [hj])).1, (hz j (by simp [hj])).2.1⟩
    have ih := kidSp_in (g := g) (z := z) (a := a) (sp := sp) (Z := Z) hsp ks (fun j hj => hz j (by simp [hj])) (fun j hj => hg j (by simp [hj]))
    have hne : ks = [] ∨ sp ≤ offS z a sp ks := by
      cases ks with
      | nil => exact .inl rfl
      | cons j js =>
        right
        rw [offS_cons]
        have h2 := hz j (by simp)
        have : 0 ≤ offS z a sp js := by
          have : ∀ (js : List Nat), (∀ k ∈ js, 0 ≤ (z k).1 ∧ 0 ≤ (z k).2) → 0 ≤ offS z a sp js := by
            intro js
            induction js with
            | nil => intro _; exact Int.le_refl 0
            | cons j js ih =>
              intro h
              rw [offS_cons]
              have h1 := ih fun x hx => h x (by simp [hx])
              have h2 := h j (by simp)
              split <;> omega
          exact this js fun i hi => ⟨(hz i (by simp [hi])).1, (hz i (by simp [hi])).2.1⟩
        split <;> omega
    rw [offS_cons]
    cases a with
    | true =>
      rw [if_pos rfl] at h ⊢
      rw [if_pos rfl]
      have z3 := z3 rfl
      rcases List.mem_append.1 h with h | h
      · exact (hg k (by simp) _ _ s h).more (Int.le_refl _) (by omega) (by omega) (by omega)
      · have a1 := ih _ _ s h
        rw [if_pos rfl] at a1
        rcases hne with rfl | hne
        · simp [kidSp] at h
        · exact a1.more (by omega) (Int.le_refl _) (by omega) (Int.le_refl _)
    | false =>
      rw [if_neg (by decide)] at h ⊢
      rw [if_neg (by decide)]
      have z4 := z4 rfl
      rcases List.mem_append.1 h with h | h
      · exact (hg k (by simp) _ _ s h).more (by omega) (Int.le_refl _) (by omega) (by omega)
      · have a1 := ih _ _ s h
        rw [if_neg (by decide)] at a1
        rcases hne with rfl | hne
        · simp [kidSp] at h
        · exact a1.more (Int.le_refl _) (by omega) (Int.le_refl _) (by omega)
theorem offS_sum (z : Nat → Int × Int) (a : Bool) (sp : Int) : ∀ ks : List Nat, offS z a sp ks - sp = sp * ((ks.length : Int) - 1) + sumI (ks.map fun k => if a then (z k).1 else (z k).2)
  | [] => by
    have e : offS z a sp [] = 0 := rfl
    rw [e, List.map_nil, sumI_nil]
    simp
  | k :: ks => by
    have ih := offS_sum z a sp ks
    rw [offS_cons, List.map_cons, sumI_cons]
    have e : (((k :: ks).length : Nat) : Int) - 1 = ((ks.length : Int) - 1) + 1 := by simp only [List.length_cons]; omega
    rw [e, Int.mul_add, Int.mul_one]
    omega
/-- The kids' sizes fit. -/
theorem max_ge (xs : List Int) : ∀ x ∈ xs, x ≤ maxI xs := (foldl_max xs 0).2.1
theorem inZ_true {rows : Bool} {l : List Nd} {z : Nat → Int × Int} {i : Nat} (h : acr rows (nd l i) = true) : inZ rows l z i = (offS z true (spcOf (nd l i)) (kidsOf l (i : Int)) - spcOf (nd l i), maxI ((kidsOf l (i : Int)).map fun k => (z k).2)) := by
  unfold inZ putS
  rw [h, if_pos rfl, offS_sum, List.length_map, List.map_map, List.map_map]
  rfl
theorem inZ_false {rows : Bool} {l : List Nd} {z : Nat → Int × Int} {i : Nat} (h : acr rows (nd l i) = false) : inZ rows l z i = (maxI ((kidsOf l (i : Int)).map fun k => (z k).1), offS z false (spcOf (nd l i)) (kidsOf l (i : Int)) - spcOf (nd l i)) := by
  unfold inZ putS
  rw [h, if_neg (by decide), offS_sum, List.length_map, List.map_map, List.map_map]
  rfl
theorem szN_grp {ss : List Sg} {l : List Nd} {rows : Bool} {f i : Nat} (h1 : leafB (kd l i) = false) (h4 : kd l i ≠ 4) : szN ss l rows (f + 1) i = ((inZ rows l (szN ss l rows f) i).1 + 2 * brd (nd l i), (inZ rows l (szN ss l rows f) i).2 + 2 * brd (nd l i)) ∨ l.length ≤ i := by
  rcases Nat.lt_or_ge i l.length with hi | hi
  · left
    unfold szN brd
    rw [if_neg (by rw [h1]; decide), if_neg h4, kd_at hi, nd_at hi]
    split
    · rfl
    · simp
  · exact .inr hi
theorem spots_in {P : Int} {ss : List Sg} {l : List Nd} {rows : Bool} (hp : Pln P ss l) : ∀ (f i : Nat), i < l.length → l.length ≤ f + i → ∀ x y, ∀ s ∈ spotsN ss l rows f i x y, s.within x y (szN ss l rows f i).1 (szN ss l rows f i).2
  | 0, i, h, h1 => by omega
  | f + 1, i, hi, hf => by
    intro x y s hs
    have ho := szN_ok (rows := rows) hp (f + 1) i hi hf
    have a1 := ho.p1; have a2 := ho.p2
    unfold spotsN at hs
    by_cases hk : leafB (kd l i) = true
    · rw [if_pos hk] at hs
      simp only [List.mem_cons, List.not_mem_nil, or_false] at hs
      subst hs
      exact ⟨Int.le_refl _, Int.le_refl _, Int.le_refl _, Int.le_refl _, by show 2 ≤ (szN ss l rows (f + 1) i).1; omega, by show 2 ≤ (szN ss l rows (f + 1) i).2; omega⟩
    · rw [if_neg hk] at hs
      by_cases h4 : kd l i = 4
      · rw [if_pos h4] at hs
        simp only [List.mem_cons, List.not_mem_nil, or_false] at hs
        generalize szN ss l rows (f + 1) i = z at *
        rcases hs with rfl | rfl
        · exact ⟨Int.le_refl _, Int.le_refl _, Int.le_refl _, Int.le_refl _, by show 2 ≤ z.1; omega, by show 2 ≤ z.2; omega⟩
        · exact ⟨by show x ≤ x + z.1 / 4; omega, by show y ≤ y + z.2 / 4; omega, by show x + z.1 / 4 + z.1 / 2 ≤ x + z.1; omega, by show y + z.2 / 4 + z.2 / 2 ≤ y + z.2; omega, by show 2 ≤ z.1 / 2; omega, by show 2 ≤ z.2 / 2; omega⟩
      · rw [if_neg h4] at hs
        have hg := (szN_grp (ss := ss) (rows := rows) (f := f) (by simpa using hk) h4).resolve_right (by omega)
        rcases List.mem_append.1 hs with hs | hs
        · split at hs
          · simp only [List.mem_cons, List.not_mem_nil, or_false] at hs
            subst hs
            exact ⟨Int.le_refl _, Int.le_refl _, Int.le_refl _, Int.le_refl _, by show 2 ≤ (szN ss l rows (f + 1) i).1; omega, by show 2 ≤ (szN ss l rows (f + 1) i).2; omega⟩
          · simp at hs
        · have hsp := spc_ok hp.val hi
          have hmem : ∀ k ∈ kidsOf l (i : Int), i < k ∧ k < l.length := fun k hk => by
            have := kidsOf_mem (l := l) (node := (i : Int)) (by omega) (by omega) hk
            omega
          have hb : 0 ≤ brd (nd l i) := by unfold brd; split <;> omega
          have hz : ∀ k ∈ kidsOf l (i : Int), 0 ≤ (szN ss l rows f k).1 ∧ 0 ≤ (szN ss l rows f k).2 ∧ (acr rows (nd l i) = true → (szN ss l rows f k).2 ≤ (inZ rows l (szN ss l rows f) i).2) ∧ (acr rows (nd l i) = false → (szN ss l rows f k).1 ≤ (inZ rows l (szN ss l rows f) i).1) := fun k hk => by
            have ok := szN_ok (rows := rows) hp f k (hmem k hk).2 (by have := hmem k hk; omega)
            refine ⟨by have := ok.p1; omega, by have := ok.p2; omega, fun ha => ?_, fun ha => ?_⟩
            · rw [inZ_true ha]; exact max_ge _ _ (List.mem_map_of_mem (f := fun k => (szN ss l rows f k).2) hk)
            · rw [inZ_false ha]; exact max_ge _ _ (List.mem_map_of_mem (f := fun k => (szN ss l rows f k).1) hk)
          have h := kidSp_in (g := spotsN ss l rows f) (z := szN ss l rows f) (a := acr rows (nd l i)) (sp := spcOf (nd l i)) (Z := inZ rows l (szN ss l rows f) i) (by omega) _ hz (fun k hk x y s hs => spots_in hp f k (hmem k hk).2 (by have := hmem k hk; omega) x y s hs) _ _ s hs
          rw [hg]
          cases ha : acr rows (nd l i) with
          | true =>
            rw [ha, if_pos rfl] at h
            have e := inZ_true (z := szN ss l rows f) ha
            rw [e] at h ⊢
            exact h.more (by omega) (by omega) (by simp only []; omega) (by simp only []; omega)
          | false =>
            rw [ha, if_neg (by decide)] at h
            have e := inZ_false (z := szN ss l rows f) ha
            rw [e] at h ⊢
            exact h.more (by omega) (by omega) (by simp only []; omega) (by simp only []; omega)
end Go.Proofs.YtimblabaeclhpaaGreat
