/- groups.Sub, ostraconref02.Sub. -/
import Derived.Test.YtddbnggficlcfaaBelowT
import Derived.Test.YtddbnggficlcfaaChk1
namespace Go.Proofs.Ytddbnggficlcfaa
open Go.RowKit Go.Shelf
open Classical in
noncomputable def subE (P : Int) (ss : List Sg) (l : List Nd) (node : Int) : Int := if chkE P ss l ≠ 0 then chkE P ss l else if node < 0 ∨ (l.length : Int) ≤ node then 1 else 0
open Classical in
noncomputable def subL (P : Int) (ss : List Sg) (l : List Nd) (node : Int) : List Nd := if subE P ss l node = 0 then partOf l node.toNat else []
theorem subL_bad {P : Int} {ss : List Sg} {l : List Nd} {node : Int} (h : chkE P ss l ≠ 0) : subL P ss l node = [] ∧ subE P ss l node = chkE P ss l := by
  have h1 : subE P ss l node = chkE P ss l := if_pos h
  exact ⟨by unfold subL; rw [h1, if_neg h], h1⟩
theorem subL_ok {P : Int} {ss : List Sg} {l : List Nd} {node : Int} (h : chkE P ss l = 0) : (node < 0 ∨ (l.length : Int) ≤ node → subL P ss l node = [] ∧ subE P ss l node = 1) ∧ (¬ (node < 0 ∨ (l.length : Int) ≤ node) → subL P ss l node = partOf l node.toNat ∧ subE P ss l node = 0) := by
  constructor
  · intro h2
    have h1 : subE P ss l node = 1 := by unfold subE; rw [if_neg (by simp [h]), if_pos h2]
    exact ⟨by unfold subL; rw [h1, if_neg (by decide)], h1⟩
  · intro h2
    have h1 : subE P ss l node = 0 := by unfold subE; rw [if_neg (by simp [h]), if_neg h2]
    exact ⟨by unfold subL; rw [h1, if_pos rfl], h1⟩
theorem subL_len {P : Int} {ss : List Sg} {l : List Nd} {node : Int} : (subL P ss l node).length ≤ l.length := by
  by_cases h : chkE P ss l = 0
  · by_cases h2 : node < 0 ∨ (l.length : Int) ≤ node
    · rw [((subL_ok h).1 h2).1]; simp
    · rw [((subL_ok h).2 h2).1, partOf_len (by omega)]
      have := endOf_le (l := l) (i := node.toNat) (by omega)
      omega
  · rw [(subL_bad h).1]; simp
set_option maxRecDepth 100000 in
set_option maxHeartbeats 8000000 in
theorem subE_any (P : Int) (ss : List Sg) (l : List Nd) (node : Int) (hN : ss.length ≤ 1000000) (hv : ∀ s ∈ ss, s.vals.length ≤ 1000000 ∧ s.vals.length ≤ s.vc) (hn : l.length ≤ 1000000) (A A2 : Option Addr) (c c2 : Nat) (w : World) (rs : Sgs w w.heap.size A ss) (rn : Nds w w.heap.size A2 l) (hroom : l.length ≤ c2) :
    Calls Try.prog 43 #[.agg #[.int .i64 P, .slice A ss.length c], .agg #[.slice A2 l.length c2], .int .i64 node] w (TxtPost (subE P ss l node) (subL P ss l node) w) := by
  obtain ⟨w1, hw1⟩ : ∃ w1, w1 = ((w.alloc (.cells #[.int .i64 P, .slice A ss.length c] 24)).alloc (.cells #[.slice A2 l.length c2] 27)).alloc (.cells #[.slice none 0 0] 27) := ⟨_, rfl⟩
  have hb1 : Below w.heap.size w w1 := by rw [hw1]; exact (((Below.refl _ _).alloc (Nat.le_refl _) _).alloc (by simp) _).alloc (by simp; omega) _
  have hz1 : w1.heap.size = w.heap.size + 3 := by rw [hw1]; simp
  have c0 : w1.cell? ⟨w.heap.size, 0, none⟩ = some (.int .i64 P) := by rw [hw1]; exact cell_old (cell_old (cell_here rfl rfl))
  have c1 : w1.cell? ⟨w.heap.size, 1, none⟩ = some (.slice A ss.length c) := by rw [hw1]; exact cell_old (cell_old (cell_here rfl rfl))
  have c3 : w1.cell? ⟨w.heap.size + 1, 0, none⟩ = some (.slice A2 l.length c2) := by rw [hw1]; exact cell_old (cell_here (by simp) rfl)
  have c4 : w1.cell? ⟨w.heap.size + 2, 0, none⟩ = some (.slice none 0 0) := by rw [hw1]; exact cell_here (by simp) rfl
  have z4 : w1.frozen? ⟨w.heap.size + 2, 0, none⟩ = false := by rw [hw1]; exact free_here (by simp)
  have HCK := hid (check_any P ss l hN hv hn A A2 c c2 w1 ((rs.below hb1).more (by omega)) ((rn.below hb1).more (by omega)))
  have HPA := hid fun (h : chkE P ss l = 0) (i : Nat) (hi : i < l.length) (W : World) (hb : Below w.heap.size w W) => part_any l i hi hn (good_of (chkE_zero h).2.2.1).deps A2 c2 hroom W ((rn.below hb).more hb.size)
  have m1 := subL_bad (P := P) (ss := ss) (l := l) (node := node); have m2 := subL_ok (P := P) (ss := ss) (l := l) (node := node)
  generalize subL P ss l node = L at m1 m2 ⊢
  generalize subE P ss l node = E at m1 m2 ⊢
  generalize chkE P ss l = CE at HCK m1 m2 HPA
  have M1 := hid m1; have M2 := hid m2
  clear m1 m2
  obtain ⟨N, hNN⟩ : ∃ N, N = ss.length := ⟨_, rfl⟩
  rw [← hNN] at HCK c1 hw1 hN ⊢
  obtain ⟨n, hnn⟩ : ∃ n, n = l.length := ⟨_, rfl⟩
  rw [← hnn] at HCK c3 hw1 hn HPA ⊢
  try rw [← hnn] at M2
  have HW1 := hid hw1; have HB1 := hid hb1; have HR := hid rn; have HRS := hid rs; have HNN := hid hnn; have HNS := hid hNN
  have hzz : w.heap.size + 1 < w1.heap.size := by omega
  have hzy : w.heap.size + 2 < w1.heap.size := by omega
  have hzx : w.heap.size < w1.heap.size := by omega
  have HC1 := hid fun (wr : World) (h : Below w1.heap.size w1 wr) => (h.cell (p := ⟨w.heap.size, 1, none⟩) hzx).trans c1
  have HC3 := hid fun (wr : World) (h : Below w1.heap.size w1 wr) => (h.cell (p := ⟨w.heap.size + 1, 0, none⟩) hzz).trans c3
  have HC4 := hid fun (wr : World) (h : Below w1.heap.size w1 wr) => (h.cell (p := ⟨w.heap.size + 2, 0, none⟩) hzy).trans c4
  have HZ4 := hid fun (wr : World) (h : Below w1.heap.size w1 wr) => (h.frozen (p := ⟨w.heap.size + 2, 0, none⟩) hzy).trans z4
  have HW : Hid (∀ wr, Below w1.heap.size w1 wr → Below w.heap.size w wr) := fun wr h => hb1.trans (h.mono (by omega))
  clear hw1 hb1 hz1 rs rn hv hnn hNN hroom
  go_enter Try.func43, Try.ntmps43
  go_upto_region 1 with (fail)
  simp only [Nat.add_assoc, Nat.reduceAdd]
  rw [← HW1.out]
  clear HW1
  obtain ⟨B0, hB0⟩ : ∃ B0, B0 = w.heap.size := ⟨_, rfl⟩
  obtain ⟨B1, hB1⟩ : ∃ B1, B1 = B0 + 1 := ⟨_, rfl⟩
  obtain ⟨B2, hB2⟩ : ∃ B2, B2 = B0 + 2 := ⟨_, rfl⟩
  rw [← hB0, ← hB1] at c3 HC3 hzz
  rw [← hB0, ← hB2] at c4 z4 HC4 HZ4 hzy
  rw [← hB0] at c0 c1 HC1 hzx
  have HB0 := hid hB0
  rw [← hB0, ← hB1, ← hB2]
  have hlt : w.heap.size ≤ B2 := by omega
  have hb0 : B0 < B1 := by omega
  have hb2 : B1 < B2 := by omega
  clear hB1 hB2 hB0
  by_cases hCE : CE = 0
  · have f0 : (CE != 0) = false := by simp [hCE]
    have x2 := M2.out hCE
    replace HPA := hid (HPA.out hCE)
    have X2 := hid x2
    clear M1 M2 x2
    subst hCE
    go_upto_region 4 with (first | (go_at_call 19; refine HCK.out.mono ?_; rintro e w2 ⟨rfl, hb2'⟩; have p3 := HC3.out w2 hb2'; have HB2 := hid hb2'; clear hb2' HCK c0 c1 c3 c4 z4))
    have p4 := HC4.out w2 HB2.out; have z4 := HZ4.out w2 HB2.out
    by_cases hno : node < 0 ∨ (n : Int) ≤ node
    · obtain ⟨rfl, rfl⟩ := X2.out.1 hno
      by_cases h0 : node < 0
      · have g0 : decide (node < 0) = true := decide_eq_true h0
        clear hno HPA X2
        go_wp2_with fail
        have hq := World.cell?_setCell_same _ _ (.slice none 0 0) p4
        exact bodyPost_ret (v := .tuple #[.agg #[.slice none 0 0], .int .i64 1]) (by simp [results, Try.results43, go_sem, hq]) rfl ⟨.slice none 0 0, rfl, World.ownsRow_nil _ _ _ _, (HW.out _ HB2.out).setCell hlt _⟩
      · have g0 : decide (node < 0) = false := decide_eq_false h0
        have g1 : decide ((n : Int) ≤ node) = true := decide_eq_true (by omega)
        clear hno HPA X2
        go_wp2_with fail
        have hq := World.cell?_setCell_same _ _ (.slice none 0 0) p4
        exact bodyPost_ret (v := .tuple #[.agg #[.slice none 0 0], .int .i64 1]) (by simp [results, Try.results43, go_sem, hq]) rfl ⟨.slice none 0 0, rfl, World.ownsRow_nil _ _ _ _, (HW.out _ HB2.out).setCell hlt _⟩
    · obtain ⟨xl, rfl⟩ := X2.out.2 hno
      obtain ⟨i, rfl⟩ : ∃ i : Nat, node = i := ⟨node.toNat, by omega⟩
      have g0 : decide ((i : Int) < 0) = false := decide_eq_false (by omega)
      have g1 : decide ((n : Int) ≤ (i : Int)) = false := decide_eq_false (by omega)
      have g2 : ¬ ((n : Int) ≤ (i : Int)) := by omega
      have HPB := hid (HPA.out i (by omega))
      obtain ⟨K, hK⟩ : ∃ K, K = (partOf l i).length := ⟨_, rfl⟩
      rw [← hK] at HPB
      have HKK := hid hK
      clear hK
      rw [Int.toNat_natCast] at xl
      have XL := hid xl
      clear hno HPA X2 xl
      go_wp2_with (first | (go_at_call 77; refine (HPB.out _ (HW.out _ HB2.out)).mono ?_; rintro e w5 ⟨v5, rfl, ho5, hb5⟩; obtain ⟨A5, c5, rfl⟩ := own_slice ho5; have HO5 := hid ho5; have HB5 := hid (HB2.out.trans (hb5.mono HB2.out.size)); have p5 := HC4.out w5 HB5.out; have z5 := HZ4.out w5 HB5.out; clear ho5 hb5 p4 z4))
      have hq := World.cell?_setCell_same _ _ (.slice A5 K c5) p5
      have hz2 := HB2.out.size
      exact bodyPost_ret (v := .tuple #[.agg #[.slice A5 K c5], .int .i64 0]) (by simp [results, Try.results43, go_sem, hq]) rfl ⟨.slice A5 K c5, rfl, by rw [XL.out, ← HKK.out]; have h9 := HO5.out; exact own_base (ownsRow_setCell_other h9 (a := (⟨B2, 0, none⟩ : Addr)) (fun he => by have := (h9.lt _ he).1; simp at this; omega) _) (HW.out _ HB2.out).size, (HW.out _ HB5.out).setCell hlt _⟩
  · have f0 : (CE != 0) = true := by simp [hCE]
    have x2 := (M1.out hCE).1
    obtain rfl := (M1.out hCE).2
    have X2 := hid x2
    clear x2
    clear M1 M2 hCE
    go_wp2_with (first | (go_at_call 19; refine HCK.out.mono ?_; rintro e w2 ⟨rfl, hb2'⟩; have p4 := HC4.out w2 hb2'; have q4 := HZ4.out w2 hb2'; have HB2 := hid hb2'; clear hb2' HCK c0 c1 c3 c4 z4))
    have hq := World.cell?_setCell_same _ _ (.slice none 0 0) p4
    exact bodyPost_ret (v := .tuple #[.agg #[.slice none 0 0], .int .i64 E]) (by simp [results, Try.results43, go_sem, hq]) rfl ⟨.slice none 0 0, rfl, by rw [X2.out]; exact World.ownsRow_nil _ _ _ _, (HW.out _ HB2.out).setCell hlt _⟩
set_option maxRecDepth 100000 in
set_option maxHeartbeats 8000000 in
theorem refSub_any (P : Int) (ss : List Sg) (l : List Nd) (node : Int) (hN : ss.length ≤ 1000000) (hv : ∀ s ∈ ss, s.vals.length ≤ 1000000) (hn : l.length ≤ 1000000) (A A2 : Option Addr) (c c2 : Nat) (w : World) (rs : Sgs w w.heap.size A ss) (rn : Nds w w.heap.size A2 l) :
    Calls Try.prog 44 #[.agg #[.int .i64 P, .slice A ss.length c], .agg #[.slice A2 l.length c2], .int .i64 node] w (TxtPost (subE P ss l node) (subL P ss l node) w) := by
  obtain ⟨w1, hw1⟩ : ∃ w1, w1 = ((w.alloc (.cells #[.int .i64 P, .slice A ss.length c] 24)).alloc (.cells #[.slice A2 l.length c2] 27)).alloc (.cells #[.slice none 0 0] 27) := ⟨_, rfl⟩
  have hb1 : Below w.heap.size w w1 := by rw [hw1]; exact (((Below.refl _ _).alloc (Nat.le_refl _) _).alloc (by simp) _).alloc (by simp; omega) _
  have hz1 : w1.heap.size = w.heap.size + 3 := by rw [hw1]; simp
  have c0 : w1.cell? ⟨w.heap.size, 0, none⟩ = some (.int .i64 P) := by rw [hw1]; exact cell_old (cell_old (cell_here rfl rfl))
  have c1 : w1.cell? ⟨w.heap.size, 1, none⟩ = some (.slice A ss.length c) := by rw [hw1]; exact cell_old (cell_old (cell_here rfl rfl))
  have c3 : w1.cell? ⟨w.heap.size + 1, 0, none⟩ = some (.slice A2 l.length c2) := by rw [hw1]; exact cell_old (cell_here (by simp) rfl)
  have c4 : w1.cell? ⟨w.heap.size + 2, 0, none⟩ = some (.slice none 0 0) := by rw [hw1]; exact cell_here (by simp) rfl
  have z4 : w1.frozen? ⟨w.heap.size + 2, 0, none⟩ = false := by rw [hw1]; exact free_here (by simp)
  have HCK := hid (refCheck_any P ss l hN hv hn A A2 c c2 w1 ((rs.below hb1).more (by omega)) ((rn.below hb1).more (by omega)))
  have HPA := hid fun (h : chkE P ss l = 0) (i : Nat) (hi : i < l.length) (W : World) (hb : Below w.heap.size w W) => belowT_any l i hi hn (good_of (chkE_zero h).2.2.1).deps A2 c2 W ((rn.below hb).more hb.size)
  have m1 := subL_bad (P := P) (ss := ss) (l := l) (node := node); have m2 := subL_ok (P := P) (ss := ss) (l := l) (node := node)
  generalize subL P ss l node = L at m1 m2 ⊢
  generalize subE P ss l node = E at m1 m2 ⊢
  generalize chkE P ss l = CE at HCK m1 m2 HPA
  have M1 := hid m1; have M2 := hid m2
  clear m1 m2
  obtain ⟨N, hNN⟩ : ∃ N, N = ss.length := ⟨_, rfl⟩
  rw [← hNN] at HCK c1 hw1 hN ⊢
  obtain ⟨n, hnn⟩ : ∃ n, n = l.length := ⟨_, rfl⟩
  rw [← hnn] at HCK c3 hw1 hn HPA ⊢
  try rw [← hnn] at M2
  have HW1 := hid hw1; have HB1 := hid hb1; have HR := hid rn; have HRS := hid rs; have HNN := hid hnn; have HNS := hid hNN
  have hzz : w.heap.size + 1 < w1.heap.size := by omega
  have hzy : w.heap.size + 2 < w1.heap.size := by omega
  have hzx : w.heap.size < w1.heap.size := by omega
  have HC1 := hid fun (wr : World) (h : Below w1.heap.size w1 wr) => (h.cell (p := ⟨w.heap.size, 1, none⟩) hzx).trans c1
  have HC3 := hid fun (wr : World) (h : Below w1.heap.size w1 wr) => (h.cell (p := ⟨w.heap.size + 1, 0, none⟩) hzz).trans c3
  have HC4 := hid fun (wr : World) (h : Below w1.heap.size w1 wr) => (h.cell (p := ⟨w.heap.size + 2, 0, none⟩) hzy).trans c4
  have HZ4 := hid fun (wr : World) (h : Below w1.heap.size w1 wr) => (h.frozen (p := ⟨w.heap.size + 2, 0, none⟩) hzy).trans z4
  have HW : Hid (∀ wr, Below w1.heap.size w1 wr → Below w.heap.size w wr) := fun wr h => hb1.trans (h.mono (by omega))
  clear hw1 hb1 hz1 rs rn hv hnn hNN
  go_enter Try.func44, Try.ntmps44
  go_upto_region 1 with (fail)
  simp only [Nat.add_assoc, Nat.reduceAdd]
  rw [← HW1.out]
  clear HW1
  obtain ⟨B0, hB0⟩ : ∃ B0, B0 = w.heap.size := ⟨_, rfl⟩
  obtain ⟨B1, hB1⟩ : ∃ B1, B1 = B0 + 1 := ⟨_, rfl⟩
  obtain ⟨B2, hB2⟩ : ∃ B2, B2 = B0 + 2 := ⟨_, rfl⟩
  rw [← hB0, ← hB1] at c3 HC3 hzz
  rw [← hB0, ← hB2] at c4 z4 HC4 HZ4 hzy
  rw [← hB0] at c0 c1 HC1 hzx
  have HB0 := hid hB0
  rw [← hB0, ← hB1, ← hB2]
  have hlt : w.heap.size ≤ B2 := by omega
  have hb0 : B0 < B1 := by omega
  have hb2 : B1 < B2 := by omega
  clear hB1 hB2 hB0
  by_cases hCE : CE = 0
  · have f0 : (CE != 0) = false := by simp [hCE]
    have x2 := M2.out hCE
    replace HPA := hid (HPA.out hCE)
    have X2 := hid x2
    clear M1 M2 x2
    subst hCE
    go_upto_region 4 with (first | (go_at_call 20; refine HCK.out.mono ?_; rintro e w2 ⟨rfl, hb2'⟩; have p3 := HC3.out w2 hb2'; have HB2 := hid hb2'; clear hb2' HCK c0 c1 c3 c4 z4))
    have p4 := HC4.out w2 HB2.out; have z4 := HZ4.out w2 HB2.out
    by_cases hno : node < 0 ∨ (n : Int) ≤ node
    · obtain ⟨rfl, rfl⟩ := X2.out.1 hno
      by_cases h0 : node < 0
      · have g0 : decide (node < 0) = true := decide_eq_true h0
        clear hno HPA X2
        go_wp2_with fail
        have hq := World.cell?_setCell_same _ _ (.slice none 0 0) p4
        exact bodyPost_ret (v := .tuple #[.agg #[.slice none 0 0], .int .i64 1]) (by simp [results, Try.results44, go_sem, hq]) rfl ⟨.slice none 0 0, rfl, World.ownsRow_nil _ _ _ _, (HW.out _ HB2.out).setCell hlt _⟩
      · have g0 : decide (node < 0) = false := decide_eq_false h0
        have g1 : decide ((n : Int) ≤ node) = true := decide_eq_true (by omega)
        clear hno HPA X2
        go_wp2_with fail
        have hq := World.cell?_setCell_same _ _ (.slice none 0 0) p4
        exact bodyPost_ret (v := .tuple #[.agg #[.slice none 0 0], .int .i64 1]) (by simp [results, Try.results44, go_sem, hq]) rfl ⟨.slice none 0 0, rfl, World.ownsRow_nil _ _ _ _, (HW.out _ HB2.out).setCell hlt _⟩
    · obtain ⟨xl, rfl⟩ := X2.out.2 hno
      obtain ⟨i, rfl⟩ : ∃ i : Nat, node = i := ⟨node.toNat, by omega⟩
      have g0 : decide ((i : Int) < 0) = false := decide_eq_false (by omega)
      have g1 : decide ((n : Int) ≤ (i : Int)) = false := decide_eq_false (by omega)
      have g2 : ¬ ((n : Int) ≤ (i : Int)) := by omega
      have HPB := hid (HPA.out i (by omega))
      obtain ⟨K, hK⟩ : ∃ K, K = (partOf l i).length := ⟨_, rfl⟩
      rw [← hK] at HPB
      have HKK := hid hK
      clear hK
      rw [Int.toNat_natCast] at xl
      have XL := hid xl
      clear hno HPA X2 xl
      go_wp2_with (first | (go_at_call 73; refine (HPB.out _ (HW.out _ HB2.out)).mono ?_; rintro e w5 ⟨v5, rfl, ho5, hb5⟩; obtain ⟨A5, c5, rfl⟩ := own_slice ho5; have HO5 := hid ho5; have HB5 := hid (HB2.out.trans (hb5.mono HB2.out.size)); have p5 := HC4.out w5 HB5.out; have z5 := HZ4.out w5 HB5.out; clear ho5 hb5 p4 z4))
      have hq := World.cell?_setCell_same _ _ (.slice A5 K c5) p5
      have hz2 := HB2.out.size
      exact bodyPost_ret (v := .tuple #[.agg #[.slice A5 K c5], .int .i64 0]) (by simp [results, Try.results44, go_sem, hq]) rfl ⟨.slice A5 K c5, rfl, by rw [XL.out, ← HKK.out]; have h9 := HO5.out; exact own_base (ownsRow_setCell_other h9 (a := (⟨B2, 0, none⟩ : Addr)) (fun he => by have := (h9.lt _ he).1; simp at this; omega) _) (HW.out _ HB2.out).size, (HW.out _ HB5.out).setCell hlt _⟩
  · have f0 : (CE != 0) = true := by simp [hCE]
    have x2 := (M1.out hCE).1
    obtain rfl := (M1.out hCE).2
    have X2 := hid x2
    clear x2
    clear M1 M2 hCE
    go_wp2_with (first | (go_at_call 20; refine HCK.out.mono ?_; rintro e w2 ⟨rfl, hb2'⟩; have p4 := HC4.out w2 hb2'; have q4 := HZ4.out w2 hb2'; have HB2 := hid hb2'; clear hb2' HCK c0 c1 c3 c4 z4))
    have hq := World.cell?_setCell_same _ _ (.slice none 0 0) p4
    exact bodyPost_ret (v := .tuple #[.agg #[.slice none 0 0], .int .i64 E]) (by simp [results, Try.results44, go_sem, hq]) rfl ⟨.slice none 0 0, rfl, by rw [X2.out]; exact World.ownsRow_nil _ _ _ _, (HW.out _ HB2.out).setCell hlt _⟩
end Go.Proofs.Ytddbnggficlcfaa
