/- WALK: the natural sizes of figures. -/
import Derived.Test.YtimblabaeclhpaaGreatLayW
namespace Go.Proofs.YtimblabaeclhpaaGreat
open Go.RowKit
set_option maxRecDepth 100000 in
set_option maxHeartbeats 1000000 in
theorem leafSize_any (n x y : Int) (w : World) :
    Calls Tryz.prog 124 #[.agg #[.int .i64 n, .int .i64 x, .int .i64 y]] w fun e w' => e = .returned (.tuple #[.int .i64 x, .int .i64 y]) ∧ Below w.heap.size w w' := by
  have HB := hid fun (q : Nat) => below_drewN ((Below.refl w.heap.size w).alloc (Nat.le_refl _) (.cells #[.int .i64 n, .int .i64 x, .int .i64 y] 142)) q
  go_enter Tryz.func124, Tryz.ntmps124
  go_wp2_with fail
  go_quiet (fail)
  go_wp2_with fail
  go_ret2
  exact ⟨rfl, HB.out _⟩
set_option maxRecDepth 100000 in
set_option maxHeartbeats 1000000 in
theorem overSize_any (n x y m u v : Int) (w : World) :
    Calls Tryz.prog 126 #[.agg #[.int .i64 n, .int .i64 x, .int .i64 y, .int .i64 m, .int .i64 u, .int .i64 v]] w fun e w' => e = .returned (.tuple #[.int .i64 x, .int .i64 y]) ∧ Below w.heap.size w w' := by
  have HS := hid fun (W : World) => leafSize_any n x y W
  go_enter Tryz.func126, Tryz.ntmps126
  go_wp2_with (first | (go_at_call 124; refine (HS.out _).mono ?_; rintro e w2 ⟨rfl, hb2⟩; have HB2 := hid hb2; clear hb2))
  go_ret2
  exact ⟨rfl, ((Below.refl _ _).alloc (Nat.le_refl _) _).trans (HB2.out.mono (by simp))⟩
/-- A figure of which a size is known, asked anywhere behind a world. -/
def SzC (W0 : World) (v : Value) (z : Int × Int) : Prop := ∃ (T : TypeId) (r : Value) (K : Nat), v = .iface T r ∧ (∀ (k : Nat) (w : World), (method (k + 1) T r "ostracon/grid.size").run Tryz.prog w = .ok (K, r) w) ∧ (∀ w : World, (callFunc K #[r]).run Tryz.prog w = .ok (.enter K #[r]) w) ∧ ∀ W, Below W0.heap.size W0 W → Calls Tryz.prog K #[r] W fun e w' => e = .returned (.tuple #[.int .i64 z.1, .int .i64 z.2]) ∧ Below W.heap.size W w'
set_option maxRecDepth 100000 in
set_option maxHeartbeats 1000000 in
theorem ringSize_any (n : Int) (u : Value) (z : Int × Int) (h0 : 0 ≤ z.1) (h1 : z.1 ≤ 100000000) (h2 : 0 ≤ z.2) (h3 : z.2 ≤ 100000000) (w : World) (h : SzC w u z) :
    Calls Tryz.prog 128 #[.agg #[.int .i64 n, u]] w fun e w' => e = .returned (.tuple #[.int .i64 (z.1 + 24), .int .i64 (z.2 + 24)]) ∧ Below w.heap.size w w' := by
  obtain ⟨T, r, K, rfl, hm, hf, hc⟩ := h
  obtain ⟨z1, z2⟩ := z
  simp only [] at h0 h1 h2 h3 hc ⊢
  have HC := hid hc
  have hm2 := hm 295
  clear hc hm
  go_enter Tryz.func128, Tryz.ntmps128
  go_wp2_with (first | (refine (HC.out _ ((Below.refl _ _).alloc (Nat.le_refl _) _)).mono ?_; rintro e w2 ⟨rfl, hb2⟩; have HB2 := hid hb2; clear hb2))
  go_ret2
  exact ⟨rfl, ((Below.refl _ _).alloc (Nat.le_refl _) _).trans (HB2.out.mono (by simp))⟩
theorem szc_leaf (W : World) (n x y : Int) : SzC W (.iface 142 (.agg #[.int .i64 n, .int .i64 x, .int .i64 y])) (x, y) :=
  ⟨142, _, 124, rfl, fun _ _ => by kernel_rfl, fun _ => by kernel_rfl, fun W' _ => leafSize_any n x y W'⟩
theorem szc_over (W : World) (n x y m u v : Int) : SzC W (.iface 145 (.agg #[.int .i64 n, .int .i64 x, .int .i64 y, .int .i64 m, .int .i64 u, .int .i64 v])) (x, y) :=
  ⟨145, _, 126, rfl, fun _ _ => by kernel_rfl, fun _ => by kernel_rfl, fun W' _ => overSize_any n x y m u v W'⟩
theorem SzC.below {W W' : World} {v : Value} {z : Int × Int} (h : SzC W v z) (hb : Below W.heap.size W W') : SzC W' v z := by
  obtain ⟨T, r, K, e, hm, hf, hc⟩ := h
  exact ⟨T, r, K, e, hm, hf, fun V hV => hc V (hb.trans (hV.mono hb.size))⟩
theorem szc_ring (W : World) (n : Int) (u : Value) (z : Int × Int) (h0 : 0 ≤ z.1) (h1 : z.1 ≤ 100000000) (h2 : 0 ≤ z.2) (h3 : z.2 ≤ 100000000) (h : SzC W u z) : SzC W (.iface 147 (.agg #[.int .i64 n, u])) (z.1 + 24, z.2 + 24) :=
  ⟨147, _, 128, rfl, fun _ _ => by kernel_rfl, fun _ => by kernel_rfl, fun W' hb => ringSize_any n u z h0 h1 h2 h3 W' (h.below hb)⟩
end Go.Proofs.YtimblabaeclhpaaGreat

/- WALK: the natural sizes of figures that stand side by side, or one above the other. -/
namespace Go.Proofs.YtimblabaeclhpaaGreat
open Go.RowKit
/-- A row of figures whose sizes are known. -/
structure RowC (W : World) (A : Option Addr) (zs : List (Int × Int)) (vs : List Value) : Prop where
  row : Reads W W.heap.size 1 A zs.length vs
  len : vs.length = zs.length
  kid : ∀ j (h : j < zs.length), ∃ v, vs[j]? = some v ∧ SzC W v zs[j]
  bd : ∀ z ∈ zs, (0 ≤ z.1 ∧ z.1 ≤ 1000000) ∧ 0 ≤ z.2 ∧ z.2 ≤ 1000000
theorem RowC.below {W W' : World} {A : Option Addr} {zs : List (Int × Int)} {vs : List Value} (h : RowC W A zs vs) (hb : Below W.heap.size W W') : RowC W' A zs vs :=
  ⟨(Reads.below h.row hb).more hb.size, h.len, fun j hj => by obtain ⟨v, h1, h2⟩ := h.kid j hj; exact ⟨v, h1, h2.below hb⟩, h.bd⟩
theorem bnext0 {w1 w w' : World} (h : Below w1.heap.size w1 w) (hb : Below w.heap.size w w') : Below w1.heap.size w1 w' := h.trans (hb.mono h.size)
theorem sum_bd {zs : List Int} (h : ∀ z ∈ zs, 0 ≤ z ∧ z ≤ 1000000) : 0 ≤ sumI zs ∧ sumI zs ≤ 1000000 * (zs.length : Int) := by
  induction zs with
  | nil => rw [sumI_nil]; simp
  | cons z zs ih =>
    have h1 := h z (by simp)
    have h2 := ih fun x hx => h x (by simp [hx])
    rw [sumI_cons, List.length_cons]
    simp only [Int.natCast_add]
    omega
theorem max_bd {zs : List Int} (h : ∀ z ∈ zs, 0 ≤ z ∧ z ≤ 1000000) : 0 ≤ maxI zs ∧ maxI zs ≤ 1000000 := by
  obtain ⟨h1, _, h3⟩ := foldl_max zs 0
  unfold maxI
  rcases h3 with h3 | h3
  · omega
  · have := h _ h3; omega
set_option maxRecDepth 100000 in
set_option maxHeartbeats 4000000 in
theorem besideSize_any (zs : List (Int × Int)) (vs : List Value) (A : Option Addr) (c : Nat) (sp : Int) (h0 : 0 ≤ sp) (h1 : sp ≤ 1000) (hm : 1 ≤ zs.length) (hm2 : zs.length ≤ 1000) (w : World) (hr : RowC w A zs vs) :
    Calls Tryz.prog 120 #[.agg #[.slice A zs.length c, .int .i64 sp]] w fun e w' => e = .returned (.tuple #[.int .i64 (putS true sp zs).1, .int .i64 (putS true sp zs).2]) ∧ Below w.heap.size w w' := by
  obtain ⟨w1, hw1⟩ : ∃ w1, w1 = w.alloc (.cells #[.slice A zs.length c, .int .i64 sp] 139) := ⟨_, rfl⟩
  have hb1 : Below w.heap.size w w1 := by rw [hw1]; exact (Below.refl _ _).alloc (Nat.le_refl _) _
  have hz1 : w1.heap.size = w.heap.size + 1 := by rw [hw1]; simp
  have c0 : w1.cell? ⟨w.heap.size, 0, none⟩ = some (.slice A zs.length c) := by rw [hw1]; exact cell_here rfl rfl
  have c1 : w1.cell? ⟨w.heap.size, 1, none⟩ = some (.int .i64 sp) := by rw [hw1]; exact cell_here rfl rfl
  have hr1 := hr.below hb1
  have HRR := hid hr1
  obtain ⟨b, o, hA, hbB, hc⟩ := Reads.at0 hr1.row (by omega) (by rw [hr1.len]; omega)
  have HC := hid hc
  have hbd := hr1.bd
  have HBD := hid hbd
  have hp : putS true sp zs = (sp * ((zs.length : Int) - 1) + sumI (zs.map Prod.fst), maxI (zs.map Prod.snd)) := if_pos rfl
  rw [hp]
  obtain ⟨S, hS⟩ : ∃ S, S = sp * ((zs.length : Int) - 1) := ⟨_, rfl⟩
  have hSb : 0 ≤ S ∧ S ≤ 1000000 := by
    rw [hS]
    have a1 := Int.mul_nonneg h0 (show 0 ≤ (zs.length : Int) - 1 by omega)
    have a2 : sp * ((zs.length : Int) - 1) ≤ 1000 * 1000 := Int.mul_le_mul h1 (by omega) (by omega) (by omega)
    omega
  rw [← hS]
  obtain ⟨m, hmm⟩ : ∃ m, m = zs.length := ⟨_, rfl⟩
  rw [← hmm] at c0 hw1 hS hm hm2 ⊢
  have HW1 := hid hw1; have HB1 := hid hb1; have HM := hid hmm
  have hS2 := hS.symm
  have s1 := hSb.1; have s2 := hSb.2
  subst hA
  clear hw1 hb1 hr hr1 hc hbd hp hS hmm hz1 hSb
  go_enter Tryz.func120, Tryz.ntmps120
  go_upto_region 1 with (fail)
  rw [← HW1.out]
  clear HW1
  obtain ⟨B0, hB0⟩ : ∃ B0, B0 = w.heap.size := ⟨_, rfl⟩
  rw [← hB0] at c0 c1 ⊢
  clear hB0
  have HBz := hid hbB
  go_wp2_with fail
  clear c0 c1
  go_loopw [2, 3, 18] (fun v2 v3 v18 wr => ∃ j : Nat, j ≤ m ∧ v18 = .int .i64 j ∧ v2 = .int .i64 (S + sumI ((zs.take j).map Prod.fst)) ∧ v3 = .int .i64 (maxI ((zs.take j).map Prod.snd)) ∧ Hid (Below w1.heap.size w1 wr)) (fun _ _ v18 _ => m - (intOf v18).toNat)
  case atStart => exact ⟨0, by omega, rfl, by rw [List.take_zero, List.map_nil, sumI_nil, Int.add_zero], by rw [List.take_zero, List.map_nil]; rfl, hid (Below.refl _ _)⟩
  case round =>
    obtain ⟨j, hj, rfl, rfl, rfl, hB⟩ := hrel
    have b1 := sum_bd (zs := (zs.take j).map Prod.fst) fun z hz => by
      obtain ⟨y, hy, rfl⟩ := List.mem_map.1 hz
      exact (HBD.out y (List.mem_of_mem_take hy)).1
    have b2 := max_bd (zs := (zs.take j).map Prod.snd) fun z hz => by
      obtain ⟨y, hy, rfl⟩ := List.mem_map.1 hz
      exact (HBD.out y (List.mem_of_mem_take hy)).2
    rw [List.length_map, List.length_take] at b1
    by_cases hjm : j < m
    · have hjl : j < zs.length := by rw [← HM.out]; exact hjm
      obtain ⟨v, hv, hz⟩ := HRR.out.kid j hjl
      have hzb := HBD.out _ (List.getElem_mem hjl)
      have d1 := (hB.out.cell (p := ⟨b, o + j, none⟩) HBz.out).trans (HC.out j v hv)
      have e1 : (zs.take (j + 1)).map Prod.fst = (zs.take j).map Prod.fst ++ [(zs[j]'hjl).1] := by rw [List.take_add_one, List.getElem?_eq_getElem hjl, Option.toList_some, List.map_append]; rfl
      have e2 : (zs.take (j + 1)).map Prod.snd = (zs.take j).map Prod.snd ++ [(zs[j]'hjl).2] := by rw [List.take_add_one, List.getElem?_eq_getElem hjl, Option.toList_some, List.map_append]; rfl
      have f1 := sumI_snoc ((zs.take j).map Prod.fst) (zs[j]'hjl).1
      have f2 := maxI_snoc ((zs.take j).map Prod.snd) (zs[j]'hjl).2
      rw [← e1] at f1
      rw [← e2] at f2
      generalize zs[j]'hjl = z at hz hzb f1 f2
      obtain ⟨z1, z2⟩ := z
      simp only [] at hz hzb f1 f2
      obtain ⟨T, r, K, rfl, hm', hf, hcall⟩ := hz.below hB.out
      have HCL := hid hcall
      generalize sumI ((zs.take j).map Prod.fst) = x at b1 f1 ⊢
      generalize maxI ((zs.take j).map Prod.snd) = y at b2 f2 ⊢
      have t1 := b1.1; have t2 : x ≤ 1000000000 := by have := b1.2; omega
      have t3 := b2.1; have t4 := b2.2
      have t5 := hzb.1.1; have t6 := hzb.1.2; have t7 := hzb.2.1; have t8 := hzb.2.2
      have g0 : (j : Int) < (m : Int) := by omega
      have HF1 := hid f1; have HF2 := hid f2
      clear hz hcall hv e1 e2 f1 f2 b1 b2 hzb
      by_cases hxy : y < z2
      · have hmx : max y z2 = z2 := by omega
        have HMX := hid hmx
        clear hmx
        go_wp2_with (first | (refine (HCL.out _ (Below.refl _ _)).mono ?_; rintro e w2 ⟨rfl, hb2⟩; have HB2 := hid (bnext0 hB.out hb2); clear hb2))
        all_goals first | (exfalso; omega) | skip
        go_roundw
        case rel => exact ⟨j + 1, by omega, by go_num, by rw [HF1.out]; go_num, by rw [HF2.out, HMX.out], HB2⟩
        case measure => simp [intOf]; omega
      · have hmx : max y z2 = y := by omega
        have HMX := hid hmx
        clear hmx
        go_wp2_with (first | (refine (HCL.out _ (Below.refl _ _)).mono ?_; rintro e w2 ⟨rfl, hb2⟩; have HB2 := hid (bnext0 hB.out hb2); clear hb2))
        all_goals first | (exfalso; omega) | skip
        go_roundw
        case rel => exact ⟨j + 1, by omega, by go_num, by rw [HF1.out]; go_num, by rw [HF2.out, HMX.out], HB2⟩
        case measure => simp [intOf]; omega
    · obtain rfl : j = m := by omega
      have g0 : decide (j < j) = false := by simp
      have htk : zs.take j = zs := by rw [HM.out, List.take_length]
      rw [htk]
      have HB := hid hB.out
      go_wp2_with fail
      go_ret2
      exact ⟨rfl, HB1.out.trans (HB.out.mono HB1.out.size)⟩
end Go.Proofs.YtimblabaeclhpaaGreat

/- WALK: the natural size of figures that stand one above the other. -/
namespace Go.Proofs.YtimblabaeclhpaaGreat
open Go.RowKit
set_option maxRecDepth 100000 in
set_option maxHeartbeats 4000000 in
theorem aboveSize_any (zs : List (Int × Int)) (vs : List Value) (A : Option Addr) (c : Nat) (sp : Int) (h0 : 0 ≤ sp) (h1 : sp ≤ 1000) (hm : 1 ≤ zs.length) (hm2 : zs.length ≤ 1000) (w : World) (hr : RowC w A zs vs) :
    Calls Tryz.prog 122 #[.agg #[.slice A zs.length c, .int .i64 sp]] w fun e w' => e = .returned (.tuple #[.int .i64 (putS false sp zs).1, .int .i64 (putS false sp zs).2]) ∧ Below w.heap.size w w' := by
  obtain ⟨w1, hw1⟩ : ∃ w1, w1 = w.alloc (.cells #[.slice A zs.length c, .int .i64 sp] 140) := ⟨_, rfl⟩
  have hb1 : Below w.heap.size w w1 := by rw [hw1]; exact (Below.refl _ _).alloc (Nat.le_refl _) _
  have hz1 : w1.heap.size = w.heap.size + 1 := by rw [hw1]; simp
  have c0 : w1.cell? ⟨w.heap.size, 0, none⟩ = some (.slice A zs.length c) := by rw [hw1]; exact cell_here rfl rfl
  have c1 : w1.cell? ⟨w.heap.size, 1, none⟩ = some (.int .i64 sp) := by rw [hw1]; exact cell_here rfl rfl
  have hr1 := hr.below hb1
  have HRR := hid hr1
  obtain ⟨b, o, hA, hbB, hc⟩ := Reads.at0 hr1.row (by omega) (by rw [hr1.len]; omega)
  have HC := hid hc
  have hbd := hr1.bd
  have HBD := hid hbd
  have hp : putS false sp zs = (maxI (zs.map Prod.fst), sp * ((zs.length : Int) - 1) + sumI (zs.map Prod.snd)) := if_neg (by decide)
  rw [hp]
  obtain ⟨S, hS⟩ : ∃ S, S = sp * ((zs.length : Int) - 1) := ⟨_, rfl⟩
  have hSb : 0 ≤ S ∧ S ≤ 1000000 := by
    rw [hS]
    have a1 := Int.mul_nonneg h0 (show 0 ≤ (zs.length : Int) - 1 by omega)
    have a2 : sp * ((zs.length : Int) - 1) ≤ 1000 * 1000 := Int.mul_le_mul h1 (by omega) (by omega) (by omega)
    omega
  rw [← hS]
  obtain ⟨m, hmm⟩ : ∃ m, m = zs.length := ⟨_, rfl⟩
  rw [← hmm] at c0 hw1 hS hm hm2 ⊢
  have HW1 := hid hw1; have HB1 := hid hb1; have HM := hid hmm
  have hS2 := hS.symm
  have s1 := hSb.1; have s2 := hSb.2
  subst hA
  clear hw1 hb1 hr hr1 hc hbd hp hS hmm hz1 hSb
  go_enter Tryz.func122, Tryz.ntmps122
  go_upto_region 1 with (fail)
  rw [← HW1.out]
  clear HW1
  obtain ⟨B0, hB0⟩ : ∃ B0, B0 = w.heap.size := ⟨_, rfl⟩
  rw [← hB0] at c0 c1 ⊢
  clear hB0
  have HBz := hid hbB
  go_wp2_with fail
  clear c0 c1
  go_loopw [2, 3, 18] (fun v2 v3 v18 wr => ∃ j : Nat, j ≤ m ∧ v18 = .int .i64 j ∧ v2 = .int .i64 (maxI ((zs.take j).map Prod.fst)) ∧ v3 = .int .i64 (S + sumI ((zs.take j).map Prod.snd)) ∧ Hid (Below w1.heap.size w1 wr)) (fun _ _ v18 _ => m - (intOf v18).toNat)
  case atStart => exact ⟨0, by omega, rfl, by rw [List.take_zero, List.map_nil]; rfl, by rw [List.take_zero, List.map_nil, sumI_nil, Int.add_zero], hid (Below.refl _ _)⟩
  case round =>
    obtain ⟨j, hj, rfl, rfl, rfl, hB⟩ := hrel
    have b1 := sum_bd (zs := (zs.take j).map Prod.snd) fun z hz => by
      obtain ⟨y, hy, rfl⟩ := List.mem_map.1 hz
      exact (HBD.out y (List.mem_of_mem_take hy)).2
    have b2 := max_bd (zs := (zs.take j).map Prod.fst) fun z hz => by
      obtain ⟨y, hy, rfl⟩ := List.mem_map.1 hz
      exact (HBD.out y (List.mem_of_mem_take hy)).1
    rw [List.length_map, List.length_take] at b1
    by_cases hjm : j < m
    · have hjl : j < zs.length := by rw [← HM.out]; exact hjm
      obtain ⟨v, hv, hz⟩ := HRR.out.kid j hjl
      have hzb := HBD.out _ (List.getElem_mem hjl)
      have d1 := (hB.out.cell (p := ⟨b, o + j, none⟩) HBz.out).trans (HC.out j v hv)
      have e1 : (zs.take (j + 1)).map Prod.snd = (zs.take j).map Prod.snd ++ [(zs[j]'hjl).2] := by rw [List.take_add_one, List.getElem?_eq_getElem hjl, Option.toList_some, List.map_append]; rfl
      have e2 : (zs.take (j + 1)).map Prod.fst = (zs.take j).map Prod.fst ++ [(zs[j]'hjl).1] := by rw [List.take_add_one, List.getElem?_eq_getElem hjl, Option.toList_some, List.map_append]; rfl
      have f1 := sumI_snoc ((zs.take j).map Prod.snd) (zs[j]'hjl).2
      have f2 := maxI_snoc ((zs.take j).map Prod.fst) (zs[j]'hjl).1
      rw [← e1] at f1
      rw [← e2] at f2
      generalize zs[j]'hjl = z at hz hzb f1 f2
      obtain ⟨z1, z2⟩ := z
      simp only [] at hz hzb f1 f2
      obtain ⟨T, r, K, rfl, hm', hf, hcall⟩ := hz.below hB.out
      have HCL := hid hcall
      generalize sumI ((zs.take j).map Prod.snd) = x at b1 f1 ⊢
      generalize maxI ((zs.take j).map Prod.fst) = y at b2 f2 ⊢
      have t1 := b1.1; have t2 : x ≤ 1000000000 := by have := b1.2; omega
      have t3 := b2.1; have t4 := b2.2
      have t5 := hzb.1.1; have t6 := hzb.1.2; have t7 := hzb.2.1; have t8 := hzb.2.2
      have g0 : (j : Int) < (m : Int) := by omega
      have HF1 := hid f1; have HF2 := hid f2
      clear hz hcall hv e1 e2 f1 f2 b1 b2 hzb
      by_cases hxy : y < z1
      · have hmx : max y z1 = z1 := by omega
        have HMX := hid hmx
        clear hmx
        go_wp2_with (first | (refine (HCL.out _ (Below.refl _ _)).mono ?_; rintro e w2 ⟨rfl, hb2⟩; have HB2 := hid (bnext0 hB.out hb2); clear hb2))
        all_goals first | (exfalso; omega) | skip
        go_roundw
        case rel => exact ⟨j + 1, by omega, by go_num, by rw [HF2.out, HMX.out], by rw [HF1.out]; go_num, HB2⟩
        case measure => simp [intOf]; omega
      · have hmx : max y z1 = y := by omega
        have HMX := hid hmx
        clear hmx
        go_wp2_with (first | (refine (HCL.out _ (Below.refl _ _)).mono ?_; rintro e w2 ⟨rfl, hb2⟩; have HB2 := hid (bnext0 hB.out hb2); clear hb2))
        all_goals first | (exfalso; omega) | skip
        go_roundw
        case rel => exact ⟨j + 1, by omega, by go_num, by rw [HF2.out, HMX.out], by rw [HF1.out]; go_num, HB2⟩
        case measure => simp [intOf]; omega
    · obtain rfl : j = m := by omega
      have g0 : decide (j < j) = false := by simp
      have htk : zs.take j = zs := by rw [HM.out, List.take_length]
      rw [htk]
      have HB := hid hB.out
      go_wp2_with fail
      go_ret2
      exact ⟨rfl, HB1.out.trans (HB.out.mono HB1.out.size)⟩
theorem szc_row (W : World) (a : Bool) (zs : List (Int × Int)) (vs : List Value) (A : Option Addr) (c : Nat) (sp : Int) (h0 : 0 ≤ sp) (h1 : sp ≤ 1000) (hm : 1 ≤ zs.length) (hm2 : zs.length ≤ 1000) (hr : RowC W A zs vs) :
    SzC W (.iface (if a then 139 else 140) (.agg #[.slice A zs.length c, .int .i64 sp])) (putS a sp zs) := by
  cases a with
  | true => exact ⟨139, _, 120, rfl, fun _ _ => by kernel_rfl, fun _ => by kernel_rfl, fun W' hb => besideSize_any zs vs A c sp h0 h1 hm hm2 W' (hr.below hb)⟩
  | false => exact ⟨140, _, 122, rfl, fun _ _ => by kernel_rfl, fun _ => by kernel_rfl, fun W' hb => aboveSize_any zs vs A c sp h0 h1 hm hm2 W' (hr.below hb)⟩
end Go.Proofs.YtimblabaeclhpaaGreat

/- Figures as they lie in memory, and their sizes. -/
namespace Go.Proofs.YtimblabaeclhpaaGreat
open Go.RowKit
/-- A row that is read, in blocks of which something is known. -/
def RdK (ok : Nat → Prop) (W : World) (A : Option Addr) (n : Nat) (vs : List Value) : Prop := vs.length = n ∧ (0 < n → ∃ ad : Addr, A = some ad ∧ ok ad.block ∧ ∀ (j : Nat) (u : Value), vs[j]? = some u → W.cell? (ad.add j) = some u)
theorem RdK.reads {ok : Nat → Prop} {W : World} {A : Option Addr} {n : Nat} {vs : List Value} (h : RdK ok W A n vs) (hk : ∀ b, ok b → b < W.heap.size) : Reads W W.heap.size 1 A n vs :=
  ⟨by rw [h.1]; omega, fun hn => by obtain ⟨ad, e, h1, h2⟩ := h.2 hn; exact ⟨ad, e, hk _ h1, h2⟩⟩
theorem RdK.keep {ok ok' : Nat → Prop} {W W' : World} {A : Option Addr} {n : Nat} {vs : List Value} (h : RdK ok W A n vs) (h1 : ∀ b, ok b → W'.heap[b]? = W.heap[b]?) (h2 : ∀ b, ok b → ok' b) : RdK ok' W' A n vs :=
  ⟨h.1, fun hn => by
    obtain ⟨ad, e, h3, h4⟩ := h.2 hn
    refine ⟨ad, e, h2 _ h3, fun j u hu => ?_⟩
    exact (World.cell?_of_block (a := ad.add j) (by rw [block_of_add]; exact h1 _ h3)).trans (h4 j u hu)⟩
/-- Figures in a row. -/
def RowF (ok : Nat → Prop) (W : World) (F : Nat → Value → Prop) (l : List Nd) (rows : Bool) (i : Nat) (v : Value) : Prop :=
  ∃ (A : Option Addr) (c : Nat) (vs : List Value), v = .iface (if acr rows (nd l i) then 139 else 140) (.agg #[.slice A (kidsOf l (i : Int)).length c, .int .i64 (spcOf (nd l i))]) ∧ RdK ok W A (kidsOf l (i : Int)).length vs ∧
    ∀ j (h : j < (kidsOf l (i : Int)).length), ∃ u, vs[j]? = some u ∧ F (kidsOf l (i : Int))[j] u
def leafIf (ss : List Sg) (n : Nd) (i : Nat) : Value := .iface 142 (.agg #[.int .i64 i, .int .i64 (leafSz ss n).1, .int .i64 (leafSz ss n).2])
/-- The figure of a node. -/
def FigAt (ss : List Sg) (l : List Nd) (rows : Bool) (ok : Nat → Prop) (W : World) : Nat → Nat → Value → Prop
  | 0, _, _ => False
  | f + 1, i, v => if leafB (kd l i) = true then v = leafIf ss (nd l i) i
    else if kd l i = 4 then v = .iface 145 (.agg #[.int .i64 ((i : Int) + 1), .int .i64 (leafSz ss (nd l (i + 1))).1, .int .i64 (leafSz ss (nd l (i + 1))).2, .int .i64 ((i : Int) + 2), .int .i64 (leafSz ss (nd l (i + 2))).1, .int .i64 (leafSz ss (nd l (i + 2))).2])
    else if kd l i = 5 then ∃ u, RowF ok W (FigAt ss l rows ok W f) l rows i u ∧ v = .iface 147 (.agg #[.int .i64 i, u])
    else RowF ok W (FigAt ss l rows ok W f) l rows i v
theorem RowF.imp {ok ok' : Nat → Prop} {W W' : World} {F G : Nat → Value → Prop} {l : List Nd} {rows : Bool} {i : Nat} {v : Value} (h : RowF ok W F l rows i v) (h1 : ∀ b, ok b → W'.heap[b]? = W.heap[b]?) (h2 : ∀ b, ok b → ok' b) (hi : ∀ k ∈ kidsOf l (i : Int), ∀ u, F k u → G k u) : RowF ok' W' G l rows i v := by
  obtain ⟨A, c, vs, e, hr, hk⟩ := h
  refine ⟨A, c, vs, e, hr.keep h1 h2, fun j hj => ?_⟩
  obtain ⟨u, h3, h4⟩ := hk j hj
  exact ⟨u, h3, hi _ (List.getElem_mem hj) u h4⟩
theorem FigAt.keep {ss : List Sg} {l : List Nd} {rows : Bool} {ok ok' : Nat → Prop} {W W' : World} (k1 : ∀ b, ok b → W'.heap[b]? = W.heap[b]?) (k2 : ∀ b, ok b → ok' b) : ∀ (f i : Nat) (v : Value), FigAt ss l rows ok W f i v → FigAt ss l rows ok' W' f i v
  | 0, _, _, h => h
  | f + 1, i, v, h => by
    unfold FigAt at h ⊢
    split at h
    · rename_i h1; rw [if_pos h1]; exact h
    · rename_i h1
      rw [if_neg h1]
      split at h
      · rename_i h2; rw [if_pos h2]; exact h
      · rename_i h2
        rw [if_neg h2]
        split at h
        · rename_i h3
          rw [if_pos h3]
          obtain ⟨u, h4, h5⟩ := h
          exact ⟨u, h4.imp k1 k2 fun k _ u hu => FigAt.keep k1 k2 f k u hu, h5⟩
        · rename_i h3
          rw [if_neg h3]
          exact h.imp k1 k2 fun k _ u hu => FigAt.keep k1 k2 f k u hu
theorem szN_small {P : Int} {ss : List Sg} {l : List Nd} {rows : Bool} (hp : Pln P ss l) {f i : Nat} (hi : i < l.length) (hf : l.length ≤ f + i) : SzOk 26380 (szN ss l rows f i) := by
  refine (szN_ok (rows := rows) hp f i hi hf).more ?_
  have h1 := hp.len
  have h2 : spn l i ≤ l.length := by unfold spn; have := endOf_le hi; omega
  omega
theorem row_size {P : Int} {ss : List Sg} {l : List Nd} {rows : Bool} (hp : Pln P ss l) {ok : Nat → Prop} {W : World} (hok : ∀ b, ok b → b < W.heap.size) {f i : Nat} {v : Value} (hi : i < l.length) (hk : leafB (kd l i) = false) (hf : l.length ≤ f + (i + 1)) (ih : ∀ k, k < l.length → l.length ≤ f + k → ∀ u, FigAt ss l rows ok W f k u → SzC W u (szN ss l rows f k)) (h : RowF ok W (FigAt ss l rows ok W f) l rows i v) : SzC W v (inZ rows l (szN ss l rows f) i) := by
  obtain ⟨A, c, vs, rfl, hr0, hks⟩ := h
  have hr := hr0.reads hok
  have hl := hr0.1
  have hmem : ∀ k ∈ kidsOf l (i : Int), i < k ∧ k < l.length := fun k hk => by
    have := kidsOf_mem (l := l) (node := (i : Int)) (by omega) (by omega) hk
    omega
  have hsp := spc_ok hp.val hi
  have hne := kids_ne hp.val hi hk
  have hlen := kidsOf_len (l := l) (node := (i : Int)) (by omega)
  have hn := hp.len
  have hpos : 1 ≤ (kidsOf l (i : Int)).length := List.length_pos_iff.2 hne
  unfold inZ
  have e : (kidsOf l (i : Int)).length = ((kidsOf l (i : Int)).map (szN ss l rows f)).length := by rw [List.length_map]
  rw [e] at hr hl ⊢
  refine szc_row W (acr rows (nd l i)) _ vs A c (spcOf (nd l i)) (by omega) (by omega) (by omega) (by omega) ⟨hr, hl, fun j hj => ?_, fun z hz => ?_⟩
  · have hj2 : j < (kidsOf l (i : Int)).length := by rw [List.length_map] at hj; exact hj
    obtain ⟨u, h1, h2⟩ := hks j hj2
    refine ⟨u, h1, ?_⟩
    rw [List.getElem_map]
    have hm := hmem _ (List.getElem_mem hj2)
    exact ih _ hm.2 (by omega) u h2
  · obtain ⟨k, hk2, rfl⟩ := List.mem_map.1 hz
    have hm := hmem k hk2
    have ok := szN_small (rows := rows) hp hm.2 (show l.length ≤ f + k by omega)
    have a1 := ok.p1; have a2 := ok.p2; have a3 := ok.b1; have a4 := ok.b2
    exact ⟨⟨by omega, by omega⟩, by omega, by omega⟩
theorem sum_nn {xs : List Int} (h : ∀ x ∈ xs, 0 ≤ x) : 0 ≤ sumI xs := by
  induction xs with
  | nil => exact Int.le_refl 0
  | cons x xs ih =>
    rw [sumI_cons]
    have := h x (by simp)
    have := ih fun y hy => h y (by simp [hy])
    omega
theorem inZ_nn {rows : Bool} {l : List Nd} {z : Nat → Int × Int} {i : Nat} (h : ∀ k ∈ kidsOf l (i : Int), 0 ≤ (z k).1 ∧ 0 ≤ (z k).2) (hne : kidsOf l (i : Int) ≠ []) (hsp : 4 ≤ spcOf (nd l i)) : 0 ≤ (inZ rows l z i).1 ∧ 0 ≤ (inZ rows l z i).2 := by
  have hpos : 1 ≤ (kidsOf l (i : Int)).length := List.length_pos_iff.2 hne
  have s1 := sum_nn (xs := ((kidsOf l (i : Int)).map z).map Prod.fst) fun x hx => by
    obtain ⟨y, hy, rfl⟩ := List.mem_map.1 hx
    obtain ⟨k, hk, rfl⟩ := List.mem_map.1 hy
    exact (h k hk).1
  have s2 := sum_nn (xs := ((kidsOf l (i : Int)).map z).map Prod.snd) fun x hx => by
    obtain ⟨y, hy, rfl⟩ := List.mem_map.1 hx
    obtain ⟨k, hk, rfl⟩ := List.mem_map.1 hy
    exact (h k hk).2
  have m1 := (foldl_max (((kidsOf l (i : Int)).map z).map Prod.fst) 0).1
  have m2 := (foldl_max (((kidsOf l (i : Int)).map z).map Prod.snd) 0).1
  have hm : 0 ≤ spcOf (nd l i) * ((((kidsOf l (i : Int)).map z).length : Int) - 1) := Int.mul_nonneg (by omega) (by rw [List.length_map]; omega)
  unfold inZ putS maxI
  split
  · exact ⟨by simp only []; omega, m2⟩
  · exact ⟨m1, by simp only []; omega⟩
/-- The size of a figure is that of its node. -/
theorem fig_size {P : Int} {ss : List Sg} {l : List Nd} {rows : Bool} (hp : Pln P ss l) {ok : Nat → Prop} {W : World} (hok : ∀ b, ok b → b < W.heap.size) : ∀ (f i : Nat), i < l.length → l.length ≤ f + i → ∀ v, FigAt ss l rows ok W f i v → SzC W v (szN ss l rows f i)
  | 0, i, h, h1, _, _ => by omega
  | f + 1, i, hi, hf, v, h => by
    unfold FigAt at h
    unfold szN
    by_cases h1 : leafB (kd l i) = true
    · rw [if_pos h1] at h ⊢
      subst h
      exact szc_leaf W i _ _
    · rw [if_neg h1] at h ⊢
      by_cases h4 : kd l i = 4
      · rw [if_pos h4] at h ⊢
        subst h
        exact szc_over W _ _ _ _ _ _
      · rw [if_neg h4] at h ⊢
        have hk : leafB (kd l i) = false := by simpa using h1
        have hrow := fun u (hu : RowF ok W (FigAt ss l rows ok W f) l rows i u) => row_size hp hok hi hk (by omega) (fun k hk2 hf2 u hu => fig_size hp hok f k hk2 hf2 u hu) hu
        by_cases h5 : kd l i = 5
        · rw [if_pos h5] at h ⊢
          obtain ⟨u, hu, rfl⟩ := h
          have hs := hrow u hu
          have ok := szN_small (rows := rows) hp hi hf
          unfold szN at ok
          rw [if_neg h1, if_neg h4, if_pos h5] at ok
          have a1 := ok.b1; have a2 := ok.b2; have a3 := ok.p1; have a4 := ok.p2
          have hz : ∀ k ∈ kidsOf l (i : Int), 0 ≤ (szN ss l rows f k).1 ∧ 0 ≤ (szN ss l rows f k).2 := fun k hk => by
            have hm := kidsOf_mem (l := l) (node := (i : Int)) (by omega) (by omega) hk
            have ok := szN_small (rows := rows) hp (f := f) (i := k) (by omega) (by omega)
            have := ok.p1; have := ok.p2
            omega
          have hne := kids_ne hp.val hi hk
          have hsp := spc_ok hp.val hi
          have q := inZ_nn (rows := rows) hz hne hsp.1
          simp only [] at a1 a2
          exact szc_ring W i u _ q.1 (by omega) q.2 (by omega) hs
        · rw [if_neg h5] at h ⊢
          exact hrow v h
end Go.Proofs.YtimblabaeclhpaaGreat
