/- WALK: the end of a node, as the layout sees it; the size of a sign; a leaf. -/
import Derived.Test.YtimblabaeclhpaaGreatNumW
import Derived.Test.YtimblabaeclhpaaGreatLayL
import Derived.Test.YtimblabaeclhpaaGreatSgn7
import Derived.Test.YtimblabaeclhpaaGreatCopy
namespace Go.Proofs.YtimblabaeclhpaaGreat
open Go.RowKit
set_option maxRecDepth 100000 in
set_option maxHeartbeats 1000000 in
theorem lend_any (P : Int) (A : Option Addr) (N c : Nat) (rows : Bool) (l : List Nd) (i : Nat) (hi : i < l.length) (hl : l.length ≤ 1000000) (A2 : Option Addr) (c2 : Nat) (w : World) (r : Nds w w.heap.size A2 l) :
    Calls Tryz.prog 56 #[.agg #[.int .i64 P, .slice A N c, .slice A2 l.length c2, .bool rows], .int .i64 i] w fun e w' => e = .returned (.int .i64 (endOf l i)) ∧ Below w.heap.size w w' := by
  obtain ⟨w1, hw1⟩ : ∃ w1, w1 = w.alloc (.cells #[.int .i64 P, .slice A N c, .slice A2 l.length c2, .bool rows] 69) := ⟨_, rfl⟩
  have hb1 : Below w.heap.size w w1 := by rw [hw1]; exact (Below.refl _ _).alloc (Nat.le_refl _) _
  have c0 : w1.cell? ⟨w.heap.size, 2, none⟩ = some (.slice A2 l.length c2) := by rw [hw1]; exact cell_here rfl rfl
  obtain ⟨b, o, rfl, hbB, hc⟩ := r.at (by omega)
  have hc1 := fun k (hk : k < l.length) => (hc k hk).below hb1 hbB
  have pi := (hc1 i hi).depth
  rw [← dep_at hi] at pi
  obtain ⟨n, hn⟩ : ∃ n, n = l.length := ⟨_, rfl⟩
  rw [← hn] at hi hl c0 hw1 ⊢
  have hend : endOf l i = endFrom l (dep l i) (i + 1) := rfl
  obtain ⟨d, hd⟩ : ∃ d, d = dep l i := ⟨_, rfl⟩
  rw [← hd] at pi hend
  have HC := hid hc1; have Hn := hid hn; have HE := hid hend; have HD := hid hd; have HW1 := hid hw1; have HB1 := hid hb1
  have HBW := hid fun q => below_drewN hb1 q
  have q0 : (i : Int) < (n : Int) := by omega
  clear hc hc1 hn hend hd r hw1 hb1
  go_enter Tryz.func56, Tryz.ntmps56
  go_upto_region 1 with (fail)
  rw [← HW1.out]
  clear HW1
  obtain ⟨B0, hB0⟩ : ∃ B0, B0 = w.heap.size := ⟨_, rfl⟩
  rw [← hB0] at c0 ⊢
  clear hB0
  go_wp2_with fail
  go_loopw [5] (fun kv wr => ∃ k : Nat, k ≤ n ∧ kv = .int .i64 k ∧ Hid (endFrom l d k = endOf l i) ∧ ∃ q, wr = w1.drewN q) (fun kv _ => n - (intOf kv).toNat)
  case atStart => exact ⟨i + 1, by omega, by go_num, HE.out.symm, 0, rfl⟩
  case round =>
    obtain ⟨k, hk, rfl, hE, q, rfl⟩ := hrel
    by_cases hkn : k < n
    · have hkl : k < l.length := by rw [← Hn.out]; exact hkn
      have pk := (HC.out k hkl).depth
      rw [← dep_at hkl] at pk
      have hs := endFrom_s (d := d) hkl
      have hp : ¬ d < dep l k → endFrom l d k = k := fun h => endFrom_stop (fun h2 => h h2.2)
      rw [hE.out] at hs hp
      generalize dep l k = dk at pk hs hp
      have q1 : (k : Int) < (n : Int) := by omega
      by_cases hdk : d < dk
      · have e1 : decide (d < dk) = true := decide_eq_true hdk
        have HX := hid (hs hdk).symm
        clear hs hp hdk hE
        go_wp2_with fail
        go_quiet (fail)
        go_wp2_with fail
        go_roundw
        case rel => exact ⟨k + 1, by omega, by go_num, HX.out, _, by first | rfl | exact World.drewN_drewN _ _ _⟩
        case measure => simp [intOf]; omega
      · have e1 : decide (d < dk) = false := decide_eq_false hdk
        have HX := hid (hp hdk)
        clear hs hp hdk hE
        go_wp2_with fail
        go_quiet (fail)
        go_wp2_with fail
        go_ret
        exact ⟨by rw [HX.out]; rfl, by first | exact HBW.out _ | (rw [World.drewN_drewN]; exact HBW.out _)⟩
    · obtain rfl : n = k := by omega
      have hx := endFrom_stop (l := l) (d := d) (k := n) (by rw [← Hn.out]; omega)
      rw [hE.out] at hx
      have HX := hid hx
      clear hx hE
      have q2 : decide (n < n) = false := by simp
      go_wp2_with fail
      go_quiet (fail)
      go_wp2_with fail
      go_ret
      exact ⟨by rw [HX.out]; rfl, by first | exact HBW.out _ | (rw [World.drewN_drewN]; exact HBW.out _)⟩
/-- The size of a sign that is turned. -/
def sgSz (ss : List Sg) (s : Nat) (t : Int) : Int × Int := if t % 2 = 1 then ((sg ss s).high, (sg ss s).wide) else ((sg ss s).wide, (sg ss s).high)
set_option maxRecDepth 100000 in
set_option maxHeartbeats 2000000 in
theorem size_any (P : Int) (ss : List Sg) (hE : listE P ss = 0) (hl : ss.length ≤ 1000000) (hv : ∀ s ∈ ss, s.vals.length ≤ 1000000 ∧ s.vals.length ≤ s.vc) (A : Option Addr) (c : Nat) (s : Nat) (hs : s < ss.length) (t : Nat) (ht : t ≤ 3) (w : World) (r : Sgs w w.heap.size A ss) :
    Calls Tryz.prog 77 #[.agg #[.int .i64 P, .slice A ss.length c], .int .i64 s, .int .i64 t] w fun e w' => e = .returned (.tuple #[.int .i64 (sgSz ss s t).1, .int .i64 (sgSz ss s t).2, .int .i64 0]) ∧ Below w.heap.size w w' := by
  obtain ⟨w1, hw1⟩ : ∃ w1, w1 = w.alloc (.cells #[.int .i64 P, .slice A ss.length c] 24) := ⟨_, rfl⟩
  have hb1 : Below w.heap.size w w1 := by rw [hw1]; exact (Below.refl _ _).alloc (Nat.le_refl _) _
  have hz1 : w1.heap.size = w.heap.size + 1 := by rw [hw1]; simp
  have c0 : w1.cell? ⟨w.heap.size, 0, none⟩ = some (.int .i64 P) := by rw [hw1]; exact cell_here rfl rfl
  have c1 : w1.cell? ⟨w.heap.size, 1, none⟩ = some (.slice A ss.length c) := by rw [hw1]; exact cell_here rfl rfl
  have HCK := hid (listCheck_any P ss hl hv A c w1 ((r.below hb1).more (by omega)))
  rw [hE] at HCK
  obtain ⟨b, o, rfl, hbB, hc⟩ := r.at (by omega)
  have hx := hc s hs
  have hsg : sg ss s = ss[s]'hs := by unfold sg; rw [List.getD_eq_getElem?_getD, List.getElem?_eq_getElem hs]; rfl
  have hsz : sgSz ss s t = if (t : Int) % 2 = 1 then ((ss[s]'hs).high, (ss[s]'hs).wide) else ((ss[s]'hs).wide, (ss[s]'hs).high) := by unfold sgSz; rw [hsg]
  rw [hsz]
  generalize ss[s]'hs = g at hx ⊢
  obtain ⟨N, hN⟩ : ∃ N, N = ss.length := ⟨_, rfl⟩
  rw [← hN] at HCK c1 hw1 hs ⊢
  have HX := hid fun (W : World) (h : Below w1.heap.size w1 W) => (hx.below (B := w.heap.size) (hb1.trans (h.mono hb1.size)) hbB)
  have HC0 := hid fun (wr : World) (h : Below w1.heap.size w1 wr) => (h.cell (p := ⟨w.heap.size, 0, none⟩) (by show w.heap.size < _; omega)).trans c0
  have HC1 := hid fun (wr : World) (h : Below w1.heap.size w1 wr) => (h.cell (p := ⟨w.heap.size, 1, none⟩) (by show w.heap.size < _; omega)).trans c1
  have HW1 := hid hw1; have HB1 := hid hb1
  have q0 : (s : Int) < (N : Int) := by omega
  have q1 : decide ((N : Int) ≤ (s : Int)) = false := decide_eq_false (by omega)
  have q2 : decide ((3 : Int) < (t : Int)) = false := decide_eq_false (by omega)
  have q3 : ¬ (N : Int) ≤ (s : Int) := by omega
  have q4 : ¬ (3 : Int) < (t : Int) := by omega
  have q5 : ¬ 3 < t := by omega
  have q6 : ¬ N ≤ s := by omega
  clear hw1 hb1 hE hv hc hx hsg hsz hl r hN hz1
  by_cases h2 : (t : Int) % 2 = 1
  · rw [if_pos h2]
    have e1 : ((t : Int) % 2 == 1) = true := by simp [h2]
    have e2 : (t % 2 == 1) = true := by simp; omega
    go_enter Tryz.func77, Tryz.ntmps77
    go_upto_region 1 with (fail)
    rw [← HW1.out]
    clear HW1
    obtain ⟨B0, hB0⟩ : ∃ B0, B0 = w.heap.size := ⟨_, rfl⟩
    rw [← hB0] at c0 c1 HC0 HC1
    rw [← hB0]
    have HBB := hid hB0
    clear hB0
    go_wp2_with (first | (go_at_call 13; refine HCK.out.mono ?_; rintro e w2 ⟨rfl, hb2⟩; have HB2 := hid hb2; have p1 := HC1.out w2 hb2; have px := HX.out w2 hb2; have d1 := px.code; have d2 := px.wide; have d3 := px.high; have d4 := px.even; have d5 := px.vals; clear px hb2 c0 c1))
    go_quiet (fail)
    go_wp2_with fail
    go_ret3
    exact ⟨rfl, below_drewN ((HB1.out.trans (HB2.out.mono HB1.out.size)).alloc (by have := HB1.out.size; have := HB2.out.size; omega) _) _⟩
  · rw [if_neg h2]
    have e1 : ((t : Int) % 2 == 1) = false := by simp; omega
    have e2 : (t % 2 == 1) = false := by simp; omega
    go_enter Tryz.func77, Tryz.ntmps77
    go_upto_region 1 with (fail)
    rw [← HW1.out]
    clear HW1
    obtain ⟨B0, hB0⟩ : ∃ B0, B0 = w.heap.size := ⟨_, rfl⟩
    rw [← hB0] at c0 c1 HC0 HC1
    rw [← hB0]
    have HBB := hid hB0
    clear hB0
    go_wp2_with (first | (go_at_call 13; refine HCK.out.mono ?_; rintro e w2 ⟨rfl, hb2⟩; have HB2 := hid hb2; have p1 := HC1.out w2 hb2; have px := HX.out w2 hb2; have d1 := px.code; have d2 := px.wide; have d3 := px.high; have d4 := px.even; have d5 := px.vals; clear px hb2 c0 c1))
    go_quiet (fail)
    go_wp2_with fail
    go_ret3
    exact ⟨rfl, below_drewN ((HB1.out.trans (HB2.out.mono HB1.out.size)).alloc (by have := HB1.out.size; have := HB2.out.size; omega) _) _⟩
end Go.Proofs.YtimblabaeclhpaaGreat

/- WALK: a leaf of the layout; the space between kids. -/
namespace Go.Proofs.YtimblabaeclhpaaGreat
open Go.RowKit
theorem res_three {W w2 : World} {b : Nat} {x y z : Value} {T : TypeId} (h : Below W.heap.size W w2) (hb : W.heap[b]? = some (.cells #[x, y, z] T (0, 0))) : (w2.cell? ⟨b, 0, none⟩ = some x ∧ w2.cell? ⟨b, 1, none⟩ = some y ∧ w2.cell? ⟨b, 2, none⟩ = some z) ∧ (w2.frozen? ⟨b, 0, none⟩ = false ∧ w2.frozen? ⟨b, 1, none⟩ = false ∧ w2.frozen? ⟨b, 2, none⟩ = false) ∧ b < w2.heap.size := by
  have hlt := lt_of_block hb
  have h2 := (h.block _ hlt).trans hb
  have hlt2 := lt_of_block h2
  refine ⟨⟨?_, ?_, ?_⟩, ⟨?_, ?_, ?_⟩, hlt2⟩
  · simp [World.cell?, h2]
  · simp [World.cell?, h2]
  · simp [World.cell?, h2]
  · simp [World.frozen?, h2]
  · simp [World.frozen?, h2]
  · simp [World.frozen?, h2]
theorem three_set {W : World} {b : Nat} {x y z u v q : Value} {T : TypeId} (h : W.heap[b]? = some (.cells #[x, y, z] T (0, 0))) : (((W.setCell ⟨b, 0, none⟩ u).setCell ⟨b, 1, none⟩ v).setCell ⟨b, 2, none⟩ q).heap[b]? = some (.cells #[u, v, q] T (0, 0)) := by
  simp [World.setCell, h, Array.getElem?_modify] <;> rfl
set_option maxRecDepth 100000 in
set_option maxHeartbeats 1000000 in
theorem space_any (d : Int) (h0 : 0 ≤ d) (h1 : d ≤ 4) (w : World) :
    Calls Tryz.prog 62 #[.int .i64 d] w fun e w' => e = .returned (.int .i64 (4 * (5 - d))) ∧ Below w.heap.size w w' := by
  go_enter Tryz.func62, Tryz.ntmps62
  go_wp2_with fail
  go_ret
  exact ⟨rfl, Below.refl _ _⟩
set_option maxRecDepth 100000 in
set_option maxHeartbeats 4000000 in
theorem lleaf_any (P : Int) (ss : List Sg) (l : List Nd) (rows : Bool) (hE : listE P ss = 0) (hl : ss.length ≤ 1000000) (hv : ∀ s ∈ ss, s.vals.length ≤ 1000000 ∧ s.vals.length ≤ s.vc) (hn : l.length ≤ 1000000) (i : Nat) (hi : i < l.length) (hk : leafB (nd l i).kind = true)
    (h1 : (nd l i).kind = 1 → 0 ≤ (nd l i).sign ∧ (nd l i).sign < ss.length ∧ 0 ≤ (nd l i).turn ∧ (nd l i).turn ≤ 3) (h6 : (nd l i).kind = 6 → 1 ≤ (nd l i).mx ∧ (nd l i).mx ≤ 9) (A A2 : Option Addr) (c c2 : Nat) (w : World) (rs : Sgs w w.heap.size A ss) (rn : Nds w w.heap.size A2 l) :
    Calls Tryz.prog 63 #[.agg #[.int .i64 P, .slice A ss.length c, .slice A2 l.length c2, .bool rows], .int .i64 i] w fun e w' => e = .returned (.agg #[.int .i64 i, .int .i64 (leafSz ss (nd l i)).1, .int .i64 (leafSz ss (nd l i)).2]) ∧ Below w.heap.size w w' := by
  obtain ⟨w1, hw1⟩ : ∃ w1, w1 = (w.alloc (.cells #[.int .i64 P, .slice A ss.length c, .slice A2 l.length c2, .bool rows] 69)).alloc (.cells #[.int .i64 0, .int .i64 0, .int .i64 0] 142) := ⟨_, rfl⟩
  have hb1 : Below w.heap.size w w1 := by rw [hw1]; exact ((Below.refl _ _).alloc (Nat.le_refl _) _).alloc (by simp) _
  have hz1 : w1.heap.size = w.heap.size + 2 := by rw [hw1]; simp
  have c0 : w1.cell? ⟨w.heap.size, 0, none⟩ = some (.int .i64 P) := by rw [hw1]; exact cell_old (cell_here rfl rfl)
  have c1 : w1.cell? ⟨w.heap.size, 1, none⟩ = some (.slice A ss.length c) := by rw [hw1]; exact cell_old (cell_here rfl rfl)
  have c2' : w1.cell? ⟨w.heap.size, 2, none⟩ = some (.slice A2 l.length c2) := by rw [hw1]; exact cell_old (cell_here rfl rfl)
  have hbk : w1.heap[w.heap.size + 1]? = some (.cells #[.int .i64 0, .int .i64 0, .int .i64 0] 142 (0, 0)) := by rw [hw1]; exact nw_blk (by simp)
  have k0 : w1.cell? ⟨w.heap.size + 1, 0, none⟩ = some (.int .i64 0) := by rw [hw1]; exact cell_here (by simp) rfl
  have k1 : w1.cell? ⟨w.heap.size + 1, 1, none⟩ = some (.int .i64 0) := by rw [hw1]; exact cell_here (by simp) rfl
  have k2 : w1.cell? ⟨w.heap.size + 1, 2, none⟩ = some (.int .i64 0) := by rw [hw1]; exact cell_here (by simp) rfl
  have z0 : w1.frozen? ⟨w.heap.size + 1, 0, none⟩ = false := by rw [hw1]; exact free_here (by simp)
  have z1 : w1.frozen? ⟨w.heap.size + 1, 1, none⟩ = false := by rw [hw1]; exact free_here (by simp)
  have z2 : w1.frozen? ⟨w.heap.size + 1, 2, none⟩ = false := by rw [hw1]; exact free_here (by simp)
  have HSZ := hid fun (s t : Nat) (hs : s < ss.length) (ht : t ≤ 3) (W : World) (h : Below w1.heap.size w1 W) => size_any P ss hE hl hv A c s hs t ht W ((rs.below (hb1.trans (h.mono (by omega)))).more (Nat.le_trans hb1.size h.size))
  have HSB := hid fun (s t : Nat) (hs : s < ss.length) => (show 1 ≤ (sgSz ss s t).1 ∧ (sgSz ss s t).1 ≤ 12 ∧ 1 ≤ (sgSz ss s t).2 ∧ (sgSz ss s t).2 ≤ 12 from by
    have h := sg_size hE hs
    unfold sgSz
    split <;> simp only [] <;> omega)
  obtain ⟨b, o, rfl, hbB, hc⟩ := rn.at (by omega)
  have hx := (hc i hi).below hb1 hbB
  have hls : ∀ s t : Nat, (nd l i).kind = 1 → (nd l i).sign = s → (nd l i).turn = t → leafSz ss (nd l i) = (4 * (sgSz ss s t).1, 4 * (sgSz ss s t).2) := fun s t e1 e2 e3 => by
    unfold leafSz sgSz
    rw [if_neg (by omega), e2, e3, Int.toNat_natCast]
    split <;> rfl
  have hlg : (nd l i).kind = 6 → leafSz ss (nd l i) = (12 * (nd l i).mx, 24) := fun e => if_pos e
  rw [← nd_at hi] at hx
  generalize leafSz ss (nd l i) = z at hls hlg ⊢
  generalize nd l i = g at hx hls hlg hk h1 h6
  obtain ⟨kk, dp, sg0, tn, mi, st, mn, mx⟩ := g
  have d1 := hx.kind; have d2 := hx.depth; have d3 := hx.sign; have d4 := hx.turn; have d5 := hx.mir; have d6 := hx.state; have d7 := hx.mn; have d8 := hx.mx
  simp only [] at d1 d2 d3 d4 d5 d6 d7 d8 hls hlg hk h1 h6
  obtain ⟨N, hN⟩ : ∃ N, N = ss.length := ⟨_, rfl⟩
  obtain ⟨n, hnn⟩ : ∃ n, n = l.length := ⟨_, rfl⟩
  rw [← hN] at HSZ HSB c1 hw1 h1 ⊢
  rw [← hnn] at c2' hw1 hi ⊢
  have HW1 := hid hw1; have HB1 := hid hb1
  have HC0 := hid fun (wr : World) (h : Below w1.heap.size w1 wr) => (h.cell (p := ⟨w.heap.size, 0, none⟩) (by show w.heap.size < _; omega)).trans c0
  have HC1 := hid fun (wr : World) (h : Below w1.heap.size w1 wr) => (h.cell (p := ⟨w.heap.size, 1, none⟩) (by show w.heap.size < _; omega)).trans c1
  have HBK := hid hbk
  have q0 : (i : Int) < (n : Int) := by omega
  have HLS := hid hls
  have hzz : w.heap.size < w1.heap.size := by omega
  have hzy : w.heap.size + 1 < w1.heap.size := by omega
  clear hw1 hb1 hE hv hc hx hl hN hnn hn rs rn hz1 hbk hls
  by_cases h6' : kk = 6
  · have e1 : (kk == 6) = true := by simp [h6']
    have hz := hlg h6'
    obtain ⟨m1, m2⟩ := h6 h6'
    subst hz
    clear hlg h1 h6 hk
    go_enter Tryz.func63, Tryz.ntmps63
    go_upto_region 1 with (fail)
    rw [← HW1.out]
    clear HW1
    obtain ⟨B0, hB0⟩ : ∃ B0, B0 = w.heap.size := ⟨_, rfl⟩
    obtain ⟨B1, hB1⟩ : ∃ B1, B1 = B0 + 1 := ⟨_, rfl⟩
    rw [← hB0] at c0 c1 c2' HC0 HC1 hzz
    rw [← hB0, ← hB1] at k0 k1 k2 z0 z1 z2 hzy HBK
    rw [← hB0, ← hB1]
    have hb01 : B0 < B1 := by omega
    have HB01 := hid hB0; have HB11 := hid hB1
    clear hB0 hB1
    go_wp2_with fail
    have hf := old_blk (o := .cells #[.int .i64 6, .int .i64 dp, .int .i64 sg0, .int .i64 tn, .bool mi, .int .i64 st, .int .i64 mn, .int .i64 mx] 67) (three_set (u := .int .i64 (i : Int)) (v := .int .i64 (12 * mx)) (q := .int .i64 24) HBK.out)
    obtain ⟨⟨j0, j1, j2⟩, _, _⟩ := res_three (Below.refl _ _) hf
    exact bodyPost_ret (v := .agg #[.int .i64 (i : Int), .int .i64 (12 * mx), .int .i64 24]) (by simp [results, Tryz.results63, go_sem, j0, j1, j2]) rfl ⟨rfl, ((((HB1.out.setCell (by have := HB01.out; have := HB11.out; show _ ≤ B1; omega) _).setCell (by have := HB01.out; have := HB11.out; show _ ≤ B1; omega) _).setCell (by have := HB01.out; have := HB11.out; show _ ≤ B1; omega) _).alloc (by have := HB1.out.size; simpa [World.setCell] using this) _)⟩
  · have hk1 : kk = 1 := by unfold leafB at hk; simp at hk; omega
    have e1 : (kk == 6) = false := by simp [h6']
    obtain ⟨m1, m2, m3, m4⟩ := h1 hk1
    obtain ⟨s, rfl⟩ : ∃ s : Nat, sg0 = s := ⟨sg0.toNat, by omega⟩
    obtain ⟨t, rfl⟩ : ∃ t : Nat, tn = t := ⟨tn.toNat, by omega⟩
    have hz := HLS.out s t hk1 rfl rfl
    have HS := hid fun (W : World) (h : Below w1.heap.size w1 W) => HSZ.out s t (by omega) (by omega) W h
    have hbd := HSB.out s t (by omega)
    generalize sgSz ss s t = y at hz HS hbd
    obtain ⟨y1, y2⟩ := y
    simp only [] at hz HS hbd
    obtain ⟨u1, u2, u3, u4⟩ := hbd
    subst hz
    clear hlg h1 h6 hk HLS
    go_enter Tryz.func63, Tryz.ntmps63
    go_upto_region 1 with (fail)
    rw [← HW1.out]
    clear HW1
    obtain ⟨B0, hB0⟩ : ∃ B0, B0 = w.heap.size := ⟨_, rfl⟩
    obtain ⟨B1, hB1⟩ : ∃ B1, B1 = B0 + 1 := ⟨_, rfl⟩
    rw [← hB0] at c0 c1 c2' HC0 HC1 hzz
    rw [← hB0, ← hB1] at k0 k1 k2 z0 z1 z2 hzy HBK
    rw [← hB0, ← hB1]
    have hb01 : B0 < B1 := by omega
    have HB01 := hid hB0; have HB11 := hid hB1
    clear hB0 hB1
    go_wp2_with (first | (go_at_call 77; refine (HS.out _ ((Below.refl _ _).alloc (Nat.le_refl _) _)).mono ?_; rintro e w2 ⟨rfl, hb2⟩; have hbx := ((Below.refl w1.heap.size w1).alloc (Nat.le_refl _) _).trans (hb2.mono (by simp)); have HBX := hid hbx; obtain ⟨⟨j0, j1, j2⟩, ⟨z3, z4, z5⟩, j5⟩ := res_three hbx HBK.out; have HBL := hid ((hbx.block _ hzy).trans HBK.out); clear hb2 hbx k0 k1 k2 z0 z1 z2))
    obtain ⟨⟨t0, t1, t2⟩, _, _⟩ := res_three (Below.refl _ _) (three_set (u := .int .i64 (i : Int)) (v := .int .i64 (4 * y1)) (q := .int .i64 (4 * y2)) HBL.out)
    exact bodyPost_ret (v := .agg #[.int .i64 (i : Int), .int .i64 (4 * y1), .int .i64 (4 * y2)]) (by simp [results, Tryz.results63, go_sem, t0, t1, t2]) rfl ⟨rfl, (((HB1.out.trans (HBX.out.mono HB1.out.size)).setCell (by have := HB01.out; have := HB11.out; show _ ≤ B1; omega) _).setCell (by have := HB01.out; have := HB11.out; show _ ≤ B1; omega) _).setCell (by have := HB01.out; have := HB11.out; show _ ≤ B1; omega) _⟩
end Go.Proofs.YtimblabaeclhpaaGreat
