/- PLAIN LAW: two boxes that cross are of one group; the products that the law asks for. -/
import Derived.Test.YtfkcpcdndleboaaStdL
import Derived.Test.YtfkcpcdndleboaaWithinW
import Derived.Test.YtfkcpcdndleboaaNumL
namespace Go.Proofs.Ytfkcpcdndleboaa
/-- No more than V, either way. -/
def InV (V : Int) (f : Fr) : Prop := -(V * f.d) ≤ f.n ∧ f.n ≤ V * f.d
/-- One side of a box. -/
structure AxOk (V M m : Int) (x w : Fr) : Prop where
  x0 : 0 < x.d
  x1 : x.d ≤ M
  w0 : 0 < w.d
  w1 : w.d ≤ m
  ix : InV V x
  iw : InV V w
  ie : InV V (x.add w)
theorem mul_in {V a b c D : Int} (h1 : -(V * b) ≤ a) (h2 : a ≤ V * b) (_hb : 0 < b) (hc : 0 < c) (hV : 0 ≤ V) (hD : b * c ≤ D) : -(V * D) ≤ a * c ∧ a * c ≤ V * D := by
  have e1 : a * c ≤ V * b * c := Int.mul_le_mul_of_nonneg_right h2 (by omega)
  have e2 : -(V * b) * c ≤ a * c := Int.mul_le_mul_of_nonneg_right h1 (by omega)
  have e3 : V * (b * c) ≤ V * D := Int.mul_le_mul_of_nonneg_left hD hV
  rw [Int.neg_mul] at e2
  rw [Int.mul_assoc] at e1 e2
  omega
theorem endv_in {V : Int} {x w : Fr} (x0 : 0 < x.d) (w0 : 0 < w.d) (ie : InV V (x.add w)) : -(V * (x.d * w.d)) ≤ x.n * w.d + w.n * x.d ∧ x.n * w.d + w.n * x.d ≤ V * (x.d * w.d) := by
  have hp := Int.mul_pos x0 w0
  have e : x.add w = frR (x.n * w.d + w.n * x.d) (x.d * w.d) := rfl
  have hc := frR_cross (n := x.n * w.d + w.n * x.d) hp
  have hq := frR_pos (n := x.n * w.d + w.n * x.d) hp
  rw [e] at ie
  obtain ⟨i1, i2⟩ := ie
  generalize frR (x.n * w.d + w.n * x.d) (x.d * w.d) = f at *
  generalize x.n * w.d + w.n * x.d = N at *
  generalize x.d * w.d = D at *
  have a1 : f.n * D ≤ V * f.d * D := Int.mul_le_mul_of_nonneg_right i2 (by omega)
  have a2 : -(V * f.d) * D ≤ f.n * D := Int.mul_le_mul_of_nonneg_right i1 (by omega)
  have a3 : V * f.d * D = V * D * f.d := by ac_rfl
  rw [Int.neg_mul, a3, hc] at a2
  rw [a3, hc] at a1
  refine ⟨?_, Int.le_of_mul_le_mul_right a1 hq⟩
  refine Int.le_of_mul_le_mul_right ?_ hq
  rw [Int.neg_mul]
  exact a2
theorem hold_ok {V M m : Int} {x w y v : Fr} (hV : 0 ≤ V) (hV1 : V ≤ 2000000) (hM : M ≤ 13200) (hm : m ≤ 13200) (hb : V * (M * m * (M * m)) ≤ 9223372036854775807) (h1 : AxOk V M m x w) (h2 : AxOk V M m y v) : HoldOk x w y v := by
  obtain ⟨x0, x1, w0, w1, ⟨i1, i2⟩, ⟨i3, i4⟩, ie⟩ := h1
  obtain ⟨y0, y1, v0, v1, ⟨j1, j2⟩, ⟨j3, j4⟩, je⟩ := h2
  have hE : V * 174240000 ≤ 2000000 * 174240000 := by omega
  have pd : ∀ {a b : Int}, 0 < a → a ≤ 13200 → 0 < b → b ≤ 13200 → a * b ≤ 174240000 := fun {a b} p1 p2 p3 p4 => by
    have := Int.mul_le_mul p2 p4 (by omega) (by omega)
    omega
  have X1 : x.d ≤ 13200 := by omega
  have W1 : w.d ≤ 13200 := by omega
  have Y1 : y.d ≤ 13200 := by omega
  have V1 : v.d ≤ 13200 := by omega
  have q1 := mul_in j1 j2 y0 x0 hV (pd y0 Y1 x0 X1)
  have q2 := mul_in i1 i2 x0 y0 hV (pd x0 X1 y0 Y1)
  have q3 := mul_in j1 j2 y0 v0 hV (pd y0 Y1 v0 V1)
  have q4 := mul_in j3 j4 v0 y0 hV (pd v0 V1 y0 Y1)
  have q5 := mul_in i1 i2 x0 w0 hV (pd x0 X1 w0 W1)
  have q6 := mul_in i3 i4 w0 x0 hV (pd w0 W1 x0 X1)
  have p1 := pd x0 X1 w0 W1
  have p2 := pd y0 Y1 v0 V1
  have g1 := Int.mul_pos x0 w0
  have g2 := Int.mul_pos y0 v0
  obtain ⟨e1, e2⟩ := endv_in x0 w0 ie
  obtain ⟨f1, f2⟩ := endv_in y0 v0 je
  have d1 : x.d * w.d ≤ M * m := Int.mul_le_mul x1 w1 (by omega) (by omega)
  have d2 : y.d * v.d ≤ M * m := Int.mul_le_mul y1 v1 (by omega) (by omega)
  have hMm : 0 < M * m := Int.mul_pos (by omega) (by omega)
  have d3 : x.d * w.d * (y.d * v.d) ≤ M * m * (M * m) := Int.mul_le_mul d1 d2 (by omega) (by omega)
  have d4 : y.d * v.d * (x.d * w.d) ≤ M * m * (M * m) := by rw [Int.mul_comm]; exact d3
  have r1 := mul_in e1 e2 g1 g2 hV d3
  have r2 := mul_in f1 f2 g2 g1 hV d4
  refine ⟨⟨by omega, by omega⟩, ⟨by omega, by omega⟩, ⟨by omega, by omega⟩, ⟨by omega, by omega⟩, ⟨by omega, by omega⟩, ⟨by omega, by omega⟩, ⟨by omega, by omega⟩, ⟨by omega, by omega⟩, ⟨by omega, by omega⟩, ⟨by omega, by omega⟩, g1, g2⟩
theorem InV.neg {V : Int} {f : Fr} (h : InV V f) : InV V f.neg := ⟨by have := h.2; show -(V * f.d) ≤ -f.n; omega, by have := h.1; show -f.n ≤ V * f.d; omega⟩
theorem InV.frR {V n d : Int} (hd : 0 < d) (h1 : -(V * d) ≤ n) (h2 : n ≤ V * d) : InV V (frR n d) := by
  have hc := frR_cross (n := n) hd
  have hq := frR_pos (n := n) hd
  unfold InV
  generalize Go.Proofs.Ytfkcpcdndleboaa.frR n d = f at *
  have a1 : n * f.d ≤ V * d * f.d := Int.mul_le_mul_of_nonneg_right h2 (by omega)
  have a2 : -(V * d) * f.d ≤ n * f.d := Int.mul_le_mul_of_nonneg_right h1 (by omega)
  have a3 : V * d * f.d = V * f.d * d := by ac_rfl
  rw [Int.neg_mul, a3, ← hc] at a2
  rw [a3, ← hc] at a1
  refine ⟨?_, Int.le_of_mul_le_mul_right a1 hd⟩
  refine Int.le_of_mul_le_mul_right ?_ hd
  rw [Int.neg_mul]
  exact a2
theorem kidsR_inc {l : List Nd} {e : Nat} : ∀ (f k : Nat), (kidsR l e f k).Pairwise (· < ·)
  | 0, _ => .nil
  | f + 1, k => by
    rw [kidsR]
    split
    · refine List.Pairwise.cons (fun x hx => ?_) (kidsR_inc f _)
      have h1 := kidsR_mem f _ x hx
      have h2 := endOf_gt l k
      omega
    · exact .nil
/-- No line ahead of its number; and what stands behind another group fits. -/
theorem stands_line {len : Int} (g : Nat → Fr) : ∀ (ks : List Nat) (st : Int × Int) (m : Nat), ks.Pairwise (· < ·) → (∀ k ∈ ks, m ≤ k) → st.1 ≤ m → (0 < st.2 → st.1 + 1 ≤ m) → ∀ x ∈ List.zip ks (stands len (ks.map g) st), x.2.1 ≤ x.1 ∧ (x.2.2 ≤ 0 ∨ ¬ (whF len).lt ((whF x.2.2).add (g x.1)))
  | [], _, _, _, _, _, _, x, hx => by simp at hx
  | k :: ks, st, m, hp, hm, h1, h2, x, hx => by
    rw [List.map_cons, stands, List.zip_cons_cons] at hx
    have hk := hm k (by simp)
    have hl : (stq len st (g k)).1 ≤ k := by
      unfold stq
      split
      · rename_i hc
        have := h2 hc.1
        show st.1 + 1 ≤ _
        omega
      · omega
    rcases List.mem_cons.1 hx with rfl | hx
    · refine ⟨hl, ?_⟩
      show (stq len st (g k)).2 ≤ 0 ∨ ¬ (whF len).lt ((whF (stq len st (g k)).2).add (g k))
      unfold stq
      split
      · exact .inl (Int.le_refl 0)
      · rename_i hc
        rcases Int.lt_or_le 0 st.2 with h4 | h4
        · exact .inr fun h5 => hc ⟨h4, h5⟩
        · exact .inl h4
    · refine stands_line g ks _ (k + 1) hp.of_cons (fun y hy => ?_) (by show (stq len st (g k)).1 ≤ _; omega) (fun _ => by show (stq len st (g k)).1 + 1 ≤ _; omega) x hx
      have := (List.pairwise_cons.1 hp).1 y hy
      omega
theorem it_stand {ss : List Sg} {l : List Nd} {rows : Bool} {len : Int} : ∀ t ∈ layIt ss l rows len, t.c.1 ≤ t.g ∧ (t.c.2 ≤ 0 ∨ ¬ (whF len).lt ((whF t.c.2).add (gL ss l rows t.g))) := fun t ht => by
  unfold layIt at ht
  obtain ⟨L, hL, ht⟩ := List.mem_flatten.1 ht
  obtain ⟨x, hx, rfl⟩ := List.mem_map.1 hL
  unfold grpIt at ht
  obtain ⟨p, hp1, rfl⟩ := List.mem_map.1 ht
  exact stands_line (gL ss l rows) (kidsOf l (-1)) (0, 0) 0 (by rw [kidsOf_top]; exact kidsR_inc _ _) (fun _ _ => Nat.zero_le _) (Int.le_refl _) (fun h => by exact absurd h (by decide)) x hx
theorem min_bd {s : Fr} {B h : Int} (h1 : s.n ≤ 48) (h2 : 4 * s.d ≤ B) (h4 : 4 ≤ h) (hm : h % 4 = 0) (hB : h ≤ B) : (minF s (frR 48 h)).n ≤ 48 ∧ 4 * (minF s (frR 48 h)).d ≤ B := by
  rcases minF_le s (frR 48 h) with e | ⟨e, _⟩
  · rw [e]; exact ⟨h1, h2⟩
  · rw [e]
    have hp := frR_pos (n := 48) (d := h) (by omega)
    have ha := (frR_mul (n := 48) (d := h) (by omega)).1
    have hb := (frR_mul (n := 48) (d := h) (by omega)).2
    have hg4 : (4 : Int) ≤ (Int.gcd 48 h : Int) := by
      have hd4 : (4 : Int) ∣ (Int.gcd 48 h : Int) := Int.dvd_coe_gcd (by decide) (Int.dvd_of_emod_eq_zero hm)
      exact Int.le_of_dvd (gcd_pos (n := 48) (d := h) (by omega)) hd4
    generalize frR 48 h = f at *
    generalize (Int.gcd 48 h : Int) = g at *
    have c1 : f.d * 4 ≤ f.d * g := Int.mul_le_mul_of_nonneg_left hg4 (Int.le_of_lt hp)
    refine ⟨?_, by omega⟩
    rcases Int.lt_or_le 0 f.n with h5 | h5
    · have := Int.mul_le_mul_of_nonneg_left hg4 (Int.le_of_lt h5)
      omega
    · omega
theorem scl_bd {rows : Bool} {n : Nd} {z : Int × Int} {B : Int} (hz : SzOk B z) : (scl rows n z).n ≤ 48 ∧ 4 * (scl rows n z).d ≤ B := by
  have a1 := hz.p1; have a2 := hz.p2; have b1 := hz.b1; have b2 := hz.b2
  have h1 : (whF 1).n ≤ 48 := by decide
  have h2 : 4 * (whF 1).d ≤ B := by show 4 * 1 ≤ B; omega
  unfold scl
  split
  · split
    · have := min_bd h1 h2 a2 hz.m2 b2
      exact min_bd this.1 this.2 a1 hz.m1 b1
    · exact min_bd h1 h2 a1 hz.m1 b1
  · split
    · exact min_bd h1 h2 a2 hz.m2 b2
    · exact ⟨h1, h2⟩
theorem along_ax {s : Fr} (hs : ScOk s) {V c2 v w al : Int} {X : Fr} (a0 : 0 ≤ c2) (v0 : 0 ≤ v) (w0 : 0 < w) (hvw : v + w ≤ al) (hV : al * s.n ≤ (V - c2) * s.d)
    (hX : (X = plA s c2 v ∧ X.add (frR (w * s.n) s.d) = plA s c2 (v + w)) ∨ (X = (plA s c2 (v + w)).neg ∧ X.add (frR (w * s.n) s.d) = (plA s c2 v).neg)) : AxOk V s.d s.d X (frR (w * s.n) s.d) := by
  have sd := hs.d0
  have sn := hs.n0
  have vs : ∀ u : Int, 0 ≤ u → u ≤ al → 0 ≤ u * s.n ∧ u * s.n ≤ al * s.n := fun u h1 h2 => ⟨Int.mul_nonneg h1 (by omega), Int.mul_le_mul_of_nonneg_right h2 (by omega)⟩
  rw [Int.sub_mul] at hV
  have c0 : 0 ≤ c2 * s.d := Int.mul_nonneg a0 (by omega)
  have pl : ∀ u : Int, 0 ≤ u → u ≤ al → 0 < (plA s c2 u).d ∧ (plA s c2 u).d ≤ s.d ∧ InV V (plA s c2 u) := fun u h1 h2 => by
    have e : plA s c2 u = frR (c2 * s.d + u * s.n) s.d := by
      unfold plA
      rw [← frR_scale (a := c2 * s.d + u * s.n) (b := s.d) (k := 2) sd (by decide)]
      congr 1
      · rw [Int.add_mul]
        have q1 : 2 * c2 * s.d = c2 * s.d * 2 := by ac_rfl
        have q2 : 2 * u * s.n = u * s.n * 2 := by ac_rfl
        rw [q1, q2]
      · exact Int.mul_comm ..
    obtain ⟨g1, g2⟩ := vs u h1 h2
    rw [e]
    exact ⟨frR_pos sd, frR_le sd, InV.frR sd (by omega) (by omega)⟩
  obtain ⟨g1, g2⟩ := vs w (by omega) (by omega)
  obtain ⟨p1, p2, p3⟩ := pl v v0 (by omega)
  obtain ⟨q1, q2, q3⟩ := pl (v + w) (by omega) hvw
  have iw : InV V (frR (w * s.n) s.d) := InV.frR sd (by omega) (by omega)
  rcases hX with ⟨e1, e2⟩ | ⟨e1, e2⟩
  · exact ⟨by rw [e1]; exact p1, by rw [e1]; exact p2, frR_pos sd, frR_le sd, by rw [e1]; exact p3, iw, by rw [e2]; exact q3⟩
  · exact ⟨by rw [e1]; exact q1, by rw [e1]; exact q2, frR_pos sd, frR_le sd, by rw [e1]; exact q3.neg, iw, by rw [e2]; exact p3.neg⟩
theorem across_ax {s : Fr} (hs : ScOk s) {c1 cr v w : Int} {X : Fr} (a0 : 0 ≤ c1) (v0 : 0 ≤ v) (w0 : 0 < w) (hvw : v + w ≤ cr) (hc : cr * s.n ≤ 48 * s.d)
    (hX : (X = plC s c1 cr v ∧ X.add (frR (w * s.n) s.d) = plC s c1 cr (v + w)) ∨ (X = (plC s c1 cr (v + w)).neg ∧ X.add (frR (w * s.n) s.d) = (plC s c1 cr v).neg)) : AxOk (72 * c1 + 48) (2 * s.d) s.d X (frR (w * s.n) s.d) := by
  have sd := hs.d0
  have sn := hs.n0
  have vs : ∀ u : Int, 0 ≤ u → u ≤ cr → 0 ≤ u * s.n ∧ u * s.n ≤ cr * s.n := fun u h1 h2 => ⟨Int.mul_nonneg h1 (by omega), Int.mul_le_mul_of_nonneg_right h2 (by omega)⟩
  have c0 : 0 ≤ c1 * s.d := Int.mul_nonneg a0 (by omega)
  have eV : (72 * c1 + 48) * (2 * s.d) = 144 * (c1 * s.d) + 96 * s.d := by
    rw [Int.add_mul]
    have q1 : 72 * c1 * (2 * s.d) = 72 * 2 * (c1 * s.d) := by ac_rfl
    rw [q1]
    omega
  have eW : (72 * c1 + 48) * s.d = 72 * (c1 * s.d) + 48 * s.d := by rw [Int.add_mul, Int.mul_assoc]
  have pl : ∀ u : Int, 0 ≤ u → u ≤ cr → 0 < (plC s c1 cr u).d ∧ (plC s c1 cr u).d ≤ 2 * s.d ∧ InV (72 * c1 + 48) (plC s c1 cr u) := fun u h1 h2 => by
    obtain ⟨g1, g2⟩ := vs u h1 h2
    unfold plC
    have q1 : 144 * c1 * s.d = 144 * (c1 * s.d) := Int.mul_assoc ..
    have q2 : 2 * u * s.n = 2 * (u * s.n) := Int.mul_assoc ..
    rw [q1, q2]
    exact ⟨frR_pos (by omega), frR_le (by omega), InV.frR (by omega) (by rw [eV]; omega) (by rw [eV]; omega)⟩
  obtain ⟨g1, g2⟩ := vs w (by omega) (by omega)
  obtain ⟨p1, p2, p3⟩ := pl v v0 (by omega)
  obtain ⟨q1, q2, q3⟩ := pl (v + w) (by omega) hvw
  have iw : InV (72 * c1 + 48) (frR (w * s.n) s.d) := InV.frR sd (by rw [eW]; omega) (by rw [eW]; omega)
  rcases hX with ⟨e1, e2⟩ | ⟨e1, e2⟩
  · exact ⟨by rw [e1]; exact p1, by rw [e1]; exact p2, frR_pos sd, frR_le sd, by rw [e1]; exact p3, iw, by rw [e2]; exact q3⟩
  · exact ⟨by rw [e1]; exact q1, by rw [e1]; exact q2, frR_pos sd, frR_le sd, by rw [e1]; exact q3.neg, iw, by rw [e2]; exact p3.neg⟩
set_option maxRecDepth 100000 in
theorem across_num : ∀ k : Nat, k < 201 → 1 ≤ k → (72 * (200 - (k : Int)) + 48) * (2 * (33 * (k : Int) - 5) * (33 * (k : Int) - 5) * (2 * (33 * (k : Int) - 5) * (33 * (k : Int) - 5))) ≤ 9223372036854775807 := by decide
theorem sq_le {a b : Int} (h0 : 0 ≤ a) (h : a ≤ b) : a * a ≤ b * b := Int.mul_le_mul h h h0 (by omega)
/-- What stands along a line: the products. -/
theorem along_num {V d : Int} (_h0 : 0 ≤ V) (d0 : 0 < d) (d1 : d ≤ 6595) (h : V * d ≤ 31656000) : V * (d * d * (d * d)) ≤ 9223372036854775807 := by
  have e1 : d * d ≤ 6595 * 6595 := sq_le (by omega) d1
  have e2 : d * (d * d) ≤ 6595 * (6595 * 6595) := Int.mul_le_mul d1 e1 (Int.mul_nonneg (by omega) (by omega)) (by omega)
  have e3 : V * d * (d * (d * d)) ≤ 31656000 * (6595 * (6595 * 6595)) := Int.mul_le_mul h e2 (Int.mul_nonneg (by omega) (Int.mul_nonneg (by omega) (by omega))) (by omega)
  have e4 : V * (d * d * (d * d)) = V * d * (d * (d * d)) := by ac_rfl
  rw [e4]
  omega
theorem across_le {c1 d : Int} {k : Nat} (c0 : 0 ≤ c1) (h1 : c1 + k ≤ 200) (d0 : 0 < d) (h2 : 4 * d ≤ 132 * (k : Int) - 20) : (72 * c1 + 48) * (2 * d * d * (2 * d * d)) ≤ 9223372036854775807 := by
  have hk := across_num k (by omega) (by omega)
  have hd : d ≤ 33 * (k : Int) - 5 := by omega
  generalize 33 * (k : Int) - 5 = D at *
  have e1 : 2 * d * d ≤ 2 * D * D := Int.mul_le_mul (by omega) hd (by omega) (by omega)
  have e0 : 0 ≤ 2 * d * d := Int.mul_nonneg (by omega) (by omega)
  have e2 := sq_le e0 e1
  have e3 : (72 * c1 + 48) * (2 * d * d * (2 * d * d)) ≤ (72 * (200 - (k : Int)) + 48) * (2 * D * D * (2 * D * D)) := Int.mul_le_mul (by omega) e2 (Int.mul_nonneg e0 e0) (by omega)
  exact Int.le_trans e3 hk
/-- How far a group reaches along its line. -/
theorem reach {len al c2 : Int} {s : Fr} (hs : ScOk s) (sn : s.n ≤ 48) (sd : s.d ≤ 6595) (h4 : 0 < al) (h5 : al ≤ 26380) (l1 : len ≤ 4800) (a0 : 0 ≤ c2)
    (h : c2 ≤ 0 ∨ ¬ (whF len).lt ((whF c2).add (frR (al * s.n) s.d))) : ∃ V, (0 ≤ V ∧ V ≤ 2000000) ∧ al * s.n ≤ (V - c2) * s.d ∧ V * s.d ≤ 31656000 := by
  have d0 := hs.d0
  have n0 := hs.n0
  have hA : al * s.n ≤ 26380 * 48 := Int.mul_le_mul h5 sn (by omega) (by omega)
  have hA0 : 0 ≤ al * s.n := Int.mul_nonneg (by omega) (by omega)
  rcases h with h | h
  · have hc : c2 = 0 := by omega
    subst hc
    have e1 := Int.mul_ediv_add_emod (al * s.n) s.d
    have e2 := Int.emod_nonneg (al * s.n) (show s.d ≠ 0 by omega)
    have e3 := Int.emod_lt_of_pos (al * s.n) d0
    have e4 : 0 ≤ al * s.n / s.d := Int.ediv_nonneg hA0 (by omega)
    have e5 : al * s.n / s.d ≤ al * s.n := Int.ediv_le_self _ hA0
    generalize al * s.n / s.d = q at *
    generalize al * s.n % s.d = r at *
    generalize al * s.n = A at *
    have e6 : (q + 1) * s.d = s.d * q + s.d := by rw [Int.add_mul, Int.one_mul, Int.mul_comm]
    refine ⟨q + 1, ⟨by omega, by omega⟩, ?_, ?_⟩
    · rw [Int.sub_zero, e6]; omega
    · rw [e6]; omega
  · have hx : LgOk (frR (al * s.n) s.d) := LgOk.of hs h4 (by omega)
    have hc := frR_cross (n := al * s.n) d0
    generalize frR (al * s.n) s.d = x at *
    rw [lt_whole hx.d0 hx.g] at h
    have x0 := hx.d0
    have e1 : c2 * x.d + x.n ≤ len * x.d := by omega
    have e2 : (c2 * x.d + x.n) * s.d ≤ len * x.d * s.d := Int.mul_le_mul_of_nonneg_right e1 (by omega)
    have e3 : (c2 * x.d + x.n) * s.d = (c2 * s.d + al * s.n) * x.d := by
      rw [Int.add_mul, hc, Int.add_mul]
      congr 1
      ac_rfl
    have e4 : len * x.d * s.d = len * s.d * x.d := by ac_rfl
    rw [e3, e4] at e2
    have e5 := Int.le_of_mul_le_mul_right e2 x0
    have hl : 0 ≤ len := by
      rcases Int.lt_or_le len 0 with h6 | h6
      · have h7 : 0 ≤ c2 * s.d := Int.mul_nonneg a0 (by omega)
        have h8 := Int.mul_neg_of_neg_of_pos h6 d0
        omega
      · exact h6
    refine ⟨len, ⟨hl, by omega⟩, by rw [Int.sub_mul]; omega, ?_⟩
    have := Int.mul_le_mul l1 sd (by omega) (by omega)
    omega
def BdOk (V M m : Int) : Prop := (0 ≤ V ∧ V ≤ 2000000) ∧ M ≤ 13200 ∧ m ≤ 13200 ∧ V * (M * m * (M * m)) ≤ 9223372036854775807
/-- The sides of a group's boxes. -/
theorem grp_ax {P : Int} {ss : List Sg} {l : List Nd} {rows : Bool} (hp : Pln P ss l) {len : Int} (l1 : len ≤ 4800) {g : Nat} (hg : g < l.length) {c : Int × Int} (c0 : 0 ≤ c.1) (c1 : c.1 ≤ g) (a0 : 0 ≤ c.2)
    (hst : c.2 ≤ 0 ∨ ¬ (whF len).lt ((whF c.2).add (gL ss l rows g))) (way : Int) : ∃ V M m V' M' m', BdOk V M m ∧ BdOk V' M' m' ∧ ∀ p ∈ spotsN ss l rows l.length g 0 0, ∀ n, AxOk V M m (boxOf way rows (gS ss l rows g) c (gCr ss l rows g) n p).x (boxOf way rows (gS ss l rows g) c (gCr ss l rows g) n p).w ∧ AxOk V' M' m' (boxOf way rows (gS ss l rows g) c (gCr ss l rows g) n p).y (boxOf way rows (gS ss l rows g) c (gCr ss l rows g) n p).h := by
  have hs := gS_ok (rows := rows) hp hg
  have hz : SzOk (132 * (spn l g : Int) - 20) (gZ ss l rows g) := szN_ok (rows := rows) hp l.length g hg (by omega)
  have hb := scl_bd (rows := rows) (n := nd l g) hz
  have hsd : (gS ss l rows g).n ≤ 48 ∧ 4 * (gS ss l rows g).d ≤ 132 * (spn l g : Int) - 20 := hb
  have hlen := hp.len
  have hspn : spn l g + g ≤ 200 := by unfold spn; have := endOf_le hg; have := endOf_gt l g; omega
  have hal := gAl_ok (rows := rows) hp hg
  have hcr := gCr_ok (rows := rows) hp hg
  have hL : gL ss l rows g = frR (gAl ss l rows g * (gS ss l rows g).n) (gS ss l rows g).d := rfl
  rw [hL] at hst
  obtain ⟨V, ⟨v0, v1⟩, v2, v3⟩ := reach hs hsd.1 (by omega) (by omega) hal.2 l1 a0 hst
  have b1 : BdOk V (gS ss l rows g).d (gS ss l rows g).d := ⟨⟨v0, v1⟩, by omega, by omega, along_num v0 hs.d0 (by omega) v3⟩
  have b2 : BdOk (72 * c.1 + 48) (2 * (gS ss l rows g).d) (gS ss l rows g).d := ⟨⟨by omega, by omega⟩, by omega, by omega, across_le c0 (by omega) hs.d0 hsd.2⟩
  have sp := fun p h => spot_bd (rows := rows) hp hg (p := p) h
  cases hr : rows with
  | true =>
    subst hr
    refine ⟨_, _, _, _, _, _, b1, b2, fun p h n => ?_⟩
    obtain ⟨⟨p1, p2, p3, p4⟩, p5, p6⟩ := sp p h
    have ex := box_x (way := way) (rows := true) (c := c) (cr := gCr ss l true g) (n := n) (p := p) hs
    have exe := box_xe (way := way) (rows := true) (c := c) (cr := gCr ss l true g) (n := n) (p := p) hs
    have eye := box_ye (way := way) (rows := true) (c := c) (cr := gCr ss l true g) (n := n) (p := p) hs
    rw [if_pos rfl, if_pos rfl] at ex exe
    rw [if_pos rfl] at eye
    constructor
    · refine along_ax hs a0 p1 (by omega) (show _ ≤ gAl ss l true g from p5) v2 ?_
      by_cases hw : way % 2 = 0
      · rw [if_pos hw] at ex exe; exact .inr ⟨ex, exe⟩
      · rw [if_neg hw] at ex exe; exact .inl ⟨ex, exe⟩
    · exact across_ax hs c0 p2 (by omega) (show _ ≤ gCr ss l true g from p6) hcr.2.2 (.inl ⟨rfl, eye⟩)
  | false =>
    subst hr
    refine ⟨_, _, _, _, _, _, b2, b1, fun p h n => ?_⟩
    obtain ⟨⟨p1, p2, p3, p4⟩, p5, p6⟩ := sp p h
    have ex := box_x (way := way) (rows := false) (c := c) (cr := gCr ss l false g) (n := n) (p := p) hs
    have exe := box_xe (way := way) (rows := false) (c := c) (cr := gCr ss l false g) (n := n) (p := p) hs
    have eye := box_ye (way := way) (rows := false) (c := c) (cr := gCr ss l false g) (n := n) (p := p) hs
    rw [if_neg (by decide)] at eye
    constructor
    · refine across_ax hs c0 p1 (by omega) (show _ ≤ gCr ss l false g from p5) hcr.2.2 ?_
      by_cases hw : way % 2 = 0
      · rw [if_pos hw, if_neg (by decide)] at ex exe; exact .inr ⟨ex, exe⟩
      · rw [if_neg hw, if_neg (by decide)] at ex exe; exact .inl ⟨ex, exe⟩
    · exact along_ax hs a0 p2 (by omega) (show _ ≤ gAl ss l false g from p6) v2 (.inl ⟨rfl, eye⟩)
/-- Boxes that cross are of one group. -/
theorem lay_same {P : Int} {ss : List Sg} {l : List Nd} {rows : Bool} (hp : Pln P ss l) (way len : Int) : (layIt ss l rows len).Pairwise fun a b => crossP (a.box ss l rows way) (b.box ss l rows way) → a.g = b.g ∧ a.c = b.c := by
  unfold layIt
  rw [List.pairwise_flatten]
  constructor
  · intro L hL
    obtain ⟨x, hx, rfl⟩ := List.mem_map.1 hL
    unfold grpIt
    rw [List.pairwise_map]
    exact List.pairwise_of_forall fun _ _ _ => ⟨rfl, rfl⟩
  · rw [List.pairwise_map]
    have hce : ∀ x ∈ (kidsOf l (-1)).map (gL ss l rows), 0 ≤ ceilF x := fun x hx => by
      obtain ⟨i, hi, rfl⟩ := List.mem_map.1 hx
      have := (ceil_bd (gL_ok (rows := rows) hp (grp_mem hi))).1
      omega
    have hpw := stands_pair (len := len) ((kidsOf l (-1)).map (gL ss l rows)) (0, 0) hce
    rw [List.zip_map_left, List.pairwise_map] at hpw
    have hpw2 : (List.zip (kidsOf l (-1)) (layS ss l rows len)).Pairwise fun a b => After len (gL ss l rows a.1) a.2 b.2 := hpw
    refine List.Pairwise.imp_of_mem ?_ hpw2
    intro x y hx hy hxy a ha b hb hc
    exfalso
    have hi := grp_mem (List.of_mem_zip hx).1
    have hj := grp_mem (List.of_mem_zip hy).1
    have hs := gS_ok (rows := rows) hp hi
    have hs' := gS_ok (rows := rows) hp hj
    unfold grpIt at ha hb
    obtain ⟨p, hp1, rfl⟩ := List.mem_map.1 ha
    obtain ⟨q, hq1, rfl⟩ := List.mem_map.1 hb
    obtain ⟨⟨p1, p2, p3, p4⟩, p5, p6⟩ := spot_bd hp hi hp1
    obtain ⟨⟨q1, q2, q3, q4⟩, q5, q6⟩ := spot_bd hp hj hq1
    have c1 := gCr_ok (rows := rows) hp hi
    have c2 := gCr_ok (rows := rows) hp hj
    have hl := ceil_bd (gL_ok (rows := rows) hp hi)
    rcases Int.lt_or_eq_of_le hxy.lines with h | h
    · -- another line
      cases hr : rows with
      | true =>
        subst hr
        refine y_apart hs ?_ hc
        unfold plY
        rw [if_pos rfl, if_pos rfl]
        exact plC_two hs hs' h (by show p.y + p.h ≤ (gZ ss l true x.1).2; exact p6) c1.2.2 c2.2.2 q2
      | false =>
        subst hr
        refine x_apart hs hs' ?_ hc
        unfold plX
        rw [if_neg (by decide), if_neg (by decide)]
        exact plC_two hs hs' h (by show p.x + p.w ≤ (gZ ss l false x.1).1; exact p5) c1.2.2 c2.2.2 q1
    · -- the same line
      have hsm := hxy.same h
      have hd := hs.d0
      have hal : gAl ss l rows x.1 * (gS ss l rows x.1).n ≤ (y.2.2 - x.2.2) * (gS ss l rows x.1).d := by
        have e1 := frR_cross (n := gAl ss l rows x.1 * (gS ss l rows x.1).n) hd
        have e2 := hl.2.2
        have e3 : (gL ss l rows x.1) = frR (gAl ss l rows x.1 * (gS ss l rows x.1).n) (gS ss l rows x.1).d := rfl
        rw [← e3] at e1
        have hxd := (gL_ok (rows := rows) hp hi).d0
        generalize gL ss l rows x.1 = L at *
        generalize gAl ss l rows x.1 * (gS ss l rows x.1).n = A at *
        generalize (gS ss l rows x.1).d = D at *
        have t1 : L.n * D ≤ ceilF L * L.d * D := Int.mul_le_mul_of_nonneg_right e2 (by omega)
        have t2 : ceilF L * L.d * D = ceilF L * D * L.d := by ac_rfl
        rw [e1, t2] at t1
        have t3 : A ≤ ceilF L * D := Int.le_of_mul_le_mul_right t1 hxd
        have t4 : ceilF L * D ≤ (y.2.2 - x.2.2) * D := Int.mul_le_mul_of_nonneg_right (by omega) (by omega)
        omega
      cases hr : rows with
      | true =>
        subst hr
        refine x_apart hs hs' ?_ hc
        unfold plX
        rw [if_pos rfl, if_pos rfl]
        exact plA_two hs hs' (al := gAl ss l true x.1) (by show p.x + p.w ≤ (gZ ss l true x.1).1; exact p5) hal q1
      | false =>
        subst hr
        refine y_apart hs ?_ hc
        unfold plY
        rw [if_neg (by decide), if_neg (by decide)]
        exact plA_two hs hs' (al := gAl ss l false x.1) (by show p.y + p.h ≤ (gZ ss l false x.1).2; exact p6) hal q2
/-- What the law asks of two boxes that cross. -/
theorem it_hold {P : Int} {ss : List Sg} {l : List Nd} {rows : Bool} (hp : Pln P ss l) {way len : Int} (l0 : 0 ≤ len) (l1 : len ≤ 4800) {i k : Nat} (hik : i < k) (hk : k < (layIt ss l rows len).length)
    (hc : crossP ((layIt ss l rows len)[i].box ss l rows way) ((layIt ss l rows len)[k].box ss l rows way)) :
    HoldOk ((layIt ss l rows len)[i].box ss l rows way).x ((layIt ss l rows len)[i].box ss l rows way).w ((layIt ss l rows len)[k].box ss l rows way).x ((layIt ss l rows len)[k].box ss l rows way).w ∧ HoldOk ((layIt ss l rows len)[i].box ss l rows way).y ((layIt ss l rows len)[i].box ss l rows way).h ((layIt ss l rows len)[k].box ss l rows way).y ((layIt ss l rows len)[k].box ss l rows way).h := by
  have h := List.pairwise_iff_getElem.1 (lay_same (rows := rows) hp way len) i k (by omega) hk hik hc
  have o1 := it_ok (rows := rows) hp l0 l1 _ (List.getElem_mem (show i < (layIt ss l rows len).length by omega))
  have o2 := it_ok (rows := rows) hp l0 l1 _ (List.getElem_mem hk)
  have s1 := it_stand _ (List.getElem_mem (show i < (layIt ss l rows len).length by omega))
  generalize (layIt ss l rows len)[i] = a at *
  generalize (layIt ss l rows len)[k] = b at *
  obtain ⟨g, c, p⟩ := a
  obtain ⟨g', c', q⟩ := b
  obtain ⟨e1, e2⟩ := h
  simp only [] at e1 e2 s1
  subst e1 e2
  obtain ⟨V, M, m, V', M', m', ⟨⟨b1, b2⟩, b3, b4, b5⟩, ⟨⟨d1, d2⟩, d3, d4, d5⟩, hx⟩ := grp_ax (rows := rows) hp l1 o1.g o1.l0 s1.1 o1.a0 s1.2 way
  have x1 := hx p o1.p (nd l p.node)
  have x2 := hx q o2.p (nd l q.node)
  exact ⟨hold_ok b1 b2 b3 b4 b5 x1.1 x2.1, hold_ok d1 d2 d3 d4 d5 x1.2 x2.2⟩
end Go.Proofs.Ytfkcpcdndleboaa

/- PLAIN LAW: what the law GridStands asks of a layout. -/
namespace Go.Proofs.Ytfkcpcdndleboaa
/-- Is box i that of an Over among the first j nodes? -/
def ovJ (L : List Nd) (j i : Nat) : Bool := (List.range j).any fun o => decide (kd L o = 4) && decide (cV L o = i)
theorem ovJ_0 {L : List Nd} {i : Nat} : ovJ L 0 i = false := rfl
theorem ovJ_s {L : List Nd} {j i : Nat} : ovJ L (j + 1) i = (ovJ L j i || (decide (kd L j = 4) && decide (cV L j = i))) := by
  unfold ovJ
  rw [List.range_succ, List.any_append]
  simp
theorem ovJ_of {L : List Nd} {n o : Nat} (h : o < n) (h4 : kd L o = 4) : ovJ L n (cV L o) = true := by
  unfold ovJ
  rw [List.any_eq_true]
  exact ⟨o, by simpa using h, by simp [h4]⟩
theorem cV_le (L : List Nd) : ∀ j, cV L j ≤ j
  | 0 => by simp [cV, vsn]
  | j + 1 => by
    have := cV_le L j
    rw [cV_s]
    split <;> omega
theorem cV_mono (L : List Nd) {j k : Nat} (h : j ≤ k) : cV L j ≤ cV L k := by
  induction k with
  | zero => have : j = 0 := by omega
            subst this; exact Nat.le_refl _
  | succ k ih =>
    rcases Nat.lt_or_ge k j with h1 | h1
    · have : j = k + 1 := by omega
      subst this; exact Nat.le_refl _
    · have := ih h1
      rw [cV_s]
      omega
structure StF (L : List Nd) (V : List Bxv) (d : Int) : Prop where
  len : L.length ≤ 200
  m : V.length = cV L L.length
  vis : ∀ j (hj : j < L.length), visB L[j].kind = true → ∃ h : cV L j < V.length, V[cV L j].nd.kind = L[j].kind
  std : ∀ i (h : i < V.length), V[i].placed ∧ V[i].within d
  crs : ∀ i k (hi : i < V.length) (hk : k < V.length), i < k → crossP V[i] V[k] → (HoldOk V[i].x V[i].w V[k].x V[k].w ∧ HoldOk V[i].y V[i].h V[k].y V[k].h) ∧ holdsP V[i] V[k] ∧ (V[i].nd.kind = 5 ∨ (k = i + 1 ∧ ovJ L L.length i = true))
theorem stand_f {P : Int} {ss : List Sg} {L : List Nd} {d wd : Int} (hp : Pln P ss L) (hd : 1 ≤ d ∧ d ≤ 4) (h0 : 0 ≤ wd) (h1 : wd ≤ 4800) : StF L (layBx ss L (decide (d ≤ 2)) d wd) d := by
  obtain ⟨V, hB⟩ : ∃ V, V = layBx ss L (decide (d ≤ 2)) d wd := ⟨_, rfl⟩
  rw [← hB]
  have hV : V = (layIt ss L (decide (d ≤ 2)) wd).map (Itm.box ss L (decide (d ≤ 2)) d) := by rw [hB]; exact lay_it d wd
  have hlen : V.length = (layIt ss L (decide (d ≤ 2)) wd).length := by rw [hV, List.length_map]
  have hm : V.length = cV L L.length := by rw [hlen]; exact it_count hp wd
  have hat : ∀ i (h : i < V.length), V[i] = ((layIt ss L (decide (d ≤ 2)) wd)[i]'(by omega)).box ss L (decide (d ≤ 2)) d := fun i h => by
    simp only [hV, List.getElem_map]
  have hnd := lay_nodes (rows := decide (d ≤ 2)) hp d wd
  rw [← hB] at hnd
  clear hB hV
  have kdn : ∀ j (hj : j < L.length), (nd L j).kind = L[j].kind := fun j hj => by rw [nd_at hj]
  refine ⟨hp.len, hm, fun j hj hv => ?_, fun i h => ?_, fun i k hi hk hik hc => ?_⟩
  · have hv' : visB (kd L j) = true := by rw [kd_at hj]; exact hv
    have h2 := cV_s L j
    rw [if_pos hv'] at h2
    have h3 := cV_mono L (show j + 1 ≤ L.length by omega)
    have hlt : cV L j < V.length := by omega
    refine ⟨hlt, ?_⟩
    have e := congrArg (fun X => X[cV L j]?) hnd
    simp only [List.getElem?_map, List.getElem?_eq_getElem hlt, Option.map_some, vsn_at hj hv'] at e
    injection e with e
    rw [e, kdn j hj]
  · rw [hat i h]
    have o := it_ok (rows := decide (d ≤ 2)) hp h0 h1 _ (List.getElem_mem (show i < (layIt ss L (decide (d ≤ 2)) wd).length by omega))
    exact ⟨it_placed hp o d, it_within rfl hd hp o⟩
  · rw [hat i hi, hat k hk] at hc ⊢
    have hk2 : k < (layIt ss L (decide (d ≤ 2)) wd).length := by omega
    have a := it_hold (rows := decide (d ≤ 2)) hp h0 h1 hik hk2 hc
    have b := it_cross (rows := decide (d ≤ 2)) hp hik hk2 hc
    refine ⟨a, b.1, ?_⟩
    rcases b.2 with h5 | ⟨h6, o, ho, h4, hcv⟩
    · left
      have hn := (it_at (rows := decide (d ≤ 2)) hp (len := wd) (j := i) (by omega)).2.1
      have : ((layIt ss L (decide (d ≤ 2)) wd)[i].box ss L (decide (d ≤ 2)) d).nd = nd L (layIt ss L (decide (d ≤ 2)) wd)[i].p.node := rfl
      rw [this, kdn _ hn, ← kd_at hn]
      exact h5
    · right
      refine ⟨h6, ?_⟩
      rw [← hcv]
      exact ovJ_of ho h4
end Go.Proofs.Ytfkcpcdndleboaa
