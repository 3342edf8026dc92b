/- WALK: kids that stand side by side put what they are. -/
import Derived.Test.YtimblabaeclhpaaGreatPutW
namespace Go.Proofs.YtimblabaeclhpaaGreat
open Go.RowKit
/-- Kids in a row, of which size and put are known. -/
structure RowQ (W : World) (A : Option Addr) (ks : List Nat) (z : Nat → Int × Int) (g : Nat → Int → Int → List Spot) (cn : Nat → Nat) (M : Int) (vs : List Value) : Prop where
  row : RowC W A (ks.map z) vs
  put : ∀ j (h : j < ks.length), ∃ v, vs[j]? = some v ∧ PutC W v (g ks[j]) (cn ks[j]) M
  len : ∀ k ∈ ks, ∀ x y, (g k x y).length ≤ cn k
  ev : ∀ k ∈ ks, (z k).1 % 4 = 0 ∧ (z k).2 % 4 = 0
theorem off_nn {z : Nat → Int × Int} {a : Bool} {sp : Int} (hsp : 0 ≤ sp) (hs1 : sp ≤ 1000) : ∀ ks : List Nat, (∀ k ∈ ks, (0 ≤ (z k).1 ∧ (z k).1 ≤ 1000000) ∧ 0 ≤ (z k).2 ∧ (z k).2 ≤ 1000000) → 0 ≤ offS z a sp ks ∧ offS z a sp ks ≤ 1001000 * (ks.length : Int)
  | [], _ => ⟨Int.le_refl 0, Int.le_refl 0⟩
  | k :: ks, h => by
    have ih := off_nn (z := z) (a := a) hsp hs1 ks fun j hj => h j (by simp [hj])
    have hk := h k (by simp)
    rw [offS_cons, List.length_cons]
    simp only [Int.natCast_add]
    split <;> omega
theorem kidSp_len {g : Nat → Int → Int → List Spot} {z : Nat → Int × Int} {a : Bool} {sp : Int} {Z : Int × Int} {cn : Nat → Nat} : ∀ (ks : List Nat), (∀ k ∈ ks, ∀ x y, (g k x y).length ≤ cn k) → ∀ x y, (kidSp g z a sp Z ks x y).length ≤ (ks.map cn).sum
  | [], _, _, _ => Nat.le_refl 0
  | k :: ks, h, x, y => by
    rw [kidSp, List.map_cons, List.sum_cons]
    split
    · rw [List.length_append]
      have h1 := h k (by simp) x (y + (Z.2 - (z k).2) / 2)
      have h2 := kidSp_len (z := z) (a := a) (sp := sp) (Z := Z) ks (fun j hj => h j (by simp [hj])) (x + (z k).1 + sp) y
      omega
    · rw [List.length_append]
      have h1 := h k (by simp) (x + (Z.1 - (z k).1) / 2) y
      have h2 := kidSp_len (z := z) (a := a) (sp := sp) (Z := Z) ks (fun j hj => h j (by simp [hj])) x (y + (z k).2 + sp)
      omega
theorem mem_max {zs : List Int} {x : Int} (h : x ∈ zs) : x ≤ maxI zs := (foldl_max zs 0).2.1 x h
set_option maxRecDepth 100000 in
set_option maxHeartbeats 4000000 in
theorem besidePut_any (ks : List Nat) (z : Nat → Int × Int) (g : Nat → Int → Int → List Spot) (cn : Nat → Nat) (M M' : Int) (hM : M + 10000000000 ≤ M') (hM' : M' ≤ 100000000000000) (vs : List Value) (A : Option Addr) (c : Nat) (sp : Int) (h0 : 0 ≤ sp) (h1 : sp ≤ 1000) (hm : 1 ≤ ks.length) (hm2 : ks.length ≤ 1000) (Z : Int × Int) (hZ : Z = putS true sp (ks.map z)) (hZe : Z.2 % 4 = 0) (W0 : World) (hq : RowQ W0 A ks z g cn M' vs)
    (W : World) (hbW : Below W0.heap.size W0 W) (B : Nat) (s : Value) (L : List Spot) (x y X Y : Int) (hX : X = 4 * x) (hY : Y = 4 * y) (hX0 : 0 ≤ X) (hX1 : X ≤ M) (hY0 : 0 ≤ Y) (hY1 : Y ≤ M) (hB0 : W0.heap.size ≤ B) (hB : B ≤ W.heap.size) (hown : W.ownsRow B 115 5 s L.length (flat5 L)) (hL : L.length + (ks.map cn).sum ≤ 900000) :
    Calls Tryz.prog 119 #[.agg #[.slice A ks.length c, .int .i64 sp], s, .int .i64 X, .int .i64 Y] W fun e w' => ∃ s', e = .returned s' ∧ PutR B W s (L ++ kidSp g z true sp Z ks x y) w' s' := by
  obtain ⟨w1, hw1⟩ : ∃ w1, w1 = W.alloc (.cells #[.slice A ks.length c, .int .i64 sp] 139) := ⟨_, rfl⟩
  have hb1 : Below W.heap.size W w1 := by rw [hw1]; exact (Below.refl _ _).alloc (Nat.le_refl _) _
  have hz1 : w1.heap.size = W.heap.size + 1 := by rw [hw1]; simp
  have c0 : w1.cell? ⟨W.heap.size, 0, none⟩ = some (.slice A ks.length c) := by rw [hw1]; exact cell_here rfl rfl
  have c1 : w1.cell? ⟨W.heap.size, 1, none⟩ = some (.int .i64 sp) := by rw [hw1]; exact cell_here rfl rfl
  have hsz0 := hbW.size
  have hb01 : Below W0.heap.size W0 w1 := hbW.trans (hb1.mono hsz0)
  have hlz : (ks.map z).length = ks.length := List.length_map ..
  have hsize := besideSize_any (ks.map z) vs A c sp h0 h1 (by omega) (by omega) w1 (hq.row.below hb01)
  rw [hlz, ← hZ] at hsize
  have HSZ := hid hsize
  have hbd := hq.row.bd
  have hkb : ∀ k ∈ ks, (0 ≤ (z k).1 ∧ (z k).1 ≤ 1000000) ∧ 0 ≤ (z k).2 ∧ (z k).2 ≤ 1000000 := fun k hk => hbd _ (List.mem_map_of_mem hk)
  have hZ2 : ∀ k ∈ ks, (z k).2 ≤ Z.2 := fun k hk => by
    rw [hZ]
    exact mem_max (List.mem_map_of_mem (f := Prod.snd) (List.mem_map_of_mem (f := z) hk))
  have hZb : 0 ≤ Z.2 ∧ Z.2 ≤ 1000000 := by
    rw [hZ]
    exact max_bd fun x hx => by obtain ⟨y, hy, rfl⟩ := List.mem_map.1 hx; exact (hbd y hy).2
  have hown1 := own_keep hown hb1
  obtain ⟨b, o, hA, hbB, hc⟩ := Reads.at0 hq.row.row (by omega) (by rw [hq.row.len]; omega)
  subst hA
  have hcs : ∀ (wr : World) (sj : Value) (L' : List Spot), PutR B w1 s L' wr sj → (wr.cell? ⟨W.heap.size, 0, none⟩ = some (.slice (some ⟨b, o, none⟩) ks.length c) ∧ wr.cell? ⟨W.heap.size, 1, none⟩ = some (.int .i64 sp)) ∧ Below W0.heap.size W0 wr := fun wr sj L' hpr =>
    ⟨⟨(hpr.cell hown (Nat.le_refl _) (by omega)).trans c0, (hpr.cell hown (Nat.le_refl _) (by omega)).trans c1⟩, hb01.trans ((hpr.bel hown1 (by omega)).mono hB0)⟩
  have HCS := hid hcs
  have hstart : PutR B w1 s (L ++ kidSp g z true sp Z (ks.take 0) x y) w1 s := by
    rw [List.take_zero, kidSp, List.append_nil]
    exact ⟨hown1, World.grownBy.refl _ _, fun q hq => .inl hq⟩
  have HST := hid hstart
  have HKD := hid fun (j : Nat) (hj : j < ks.length) (wr : World) (hb : Below W0.heap.size W0 wr) => (show ∃ (T : TypeId) (r : Value) (K K2 : Nat), wr.cell? ⟨b, o + j, none⟩ = some (.iface T r) ∧
      (∀ (k : Nat) (w : World), (method (k + 1) T r "ostracon/grid.size").run Tryz.prog w = .ok (K, r) w) ∧ (∀ w : World, (callFunc K #[r]).run Tryz.prog w = .ok (.enter K #[r]) w) ∧
      (∀ (k : Nat) (w : World), (method (k + 1) T r "ostracon/grid.put").run Tryz.prog w = .ok (K2, r) w) ∧ (∀ (a b c : Value) (w : World), (callFunc K2 #[r, a, b, c]).run Tryz.prog w = .ok (.enter K2 #[r, a, b, c]) w) ∧
      (∀ V, Below W0.heap.size W0 V → Calls Tryz.prog K #[r] V fun e w' => e = .returned (.tuple #[.int .i64 (z ks[j]).1, .int .i64 (z ks[j]).2]) ∧ Below V.heap.size V w') ∧
      (∀ (V : World) (sj : Value) (X' Y' : Int), Below W0.heap.size W0 V → X' = X + 4 * offS z true sp (ks.take j) → Y' = Y + 2 * (Z.2 - (z ks[j]).2) → B ≤ V.heap.size → V.ownsRow B 115 5 sj (L ++ kidSp g z true sp Z (ks.take j) x y).length (flat5 (L ++ kidSp g z true sp Z (ks.take j) x y)) →
        Calls Tryz.prog K2 #[r, sj, .int .i64 X', .int .i64 Y'] V fun e w' => ∃ s', e = .returned s' ∧ PutR B V sj (L ++ kidSp g z true sp Z (ks.take (j + 1)) x y) w' s') from by
    have hjl : j < (ks.map z).length := by rw [hlz]; exact hj
    obtain ⟨v, hv, hz⟩ := hq.row.kid j hjl
    obtain ⟨v2, hv2, hp⟩ := hq.put j hj
    rw [hv] at hv2
    injection hv2 with hv2
    subst hv2
    rw [List.getElem_map] at hz
    obtain ⟨T, r, K, e1, a1, a2, a3⟩ := hz
    obtain ⟨T2, r2, K2, e2, b1, b2, b3⟩ := hp
    rw [e1] at e2
    injection e2 with e3 e4
    subst e3 e4
    refine ⟨T, r, K, K2, ?_, a1, a2, b1, b2, a3, fun V sj X' Y' hV hX' hY' hBV ho => ?_⟩
    · rw [← e1]
      exact (hb.cell (p := ⟨b, o + j, none⟩) hbB).trans (hc j v hv)
    · have htk : ks.take (j + 1) = ks.take j ++ [ks[j]] := by rw [List.take_add_one, List.getElem?_eq_getElem hj]; rfl
      have hkm := List.getElem_mem hj
      have hof := off_nn (z := z) (a := true) h0 h1 (ks.take j) fun k hk => hkb k (List.mem_of_mem_take hk)
      have hlt : ((ks.take j).length : Int) ≤ 1000 := by rw [List.length_take]; omega
      have hzz := hZ2 _ hkm
      have hev := (hq.ev _ hkm).2
      have hkbj := hkb _ hkm
      have hlen := kidSp_len (z := z) (a := true) (sp := sp) (Z := Z) (cn := cn) (ks.take j) (fun k hk => hq.len k (List.mem_of_mem_take hk)) x y
      have hsum : ((ks.take j).map cn).sum + cn ks[j] ≤ (ks.map cn).sum := by
        have e : ks = ks.take (j + 1) ++ ks.drop (j + 1) := (List.take_append_drop _ _).symm
        have e2 : (ks.map cn).sum = ((ks.take (j + 1)).map cn).sum + ((ks.drop (j + 1)).map cn).sum := by rw [← List.sum_append, ← List.map_append, ← e]
        rw [e2, htk, List.map_append, List.sum_append]
        simp
      have h := b3 V hV B sj _ (x + offS z true sp (ks.take j)) (y + (Z.2 - (z ks[j]).2) / 2) X' Y' (by omega) (by omega) (by omega) (by omega) (by omega) (by omega) hB0 hBV ho (by rw [List.length_append]; omega)
      refine h.mono fun e w' ⟨s', f1, f2⟩ => ⟨s', f1, ?_⟩
      rw [htk, kidSp_snoc, if_pos rfl, ← List.append_assoc]
      exact f2)
  have HOF := hid fun (j : Nat) (hj : j < ks.length) => (show (0 ≤ offS z true sp (ks.take j) ∧ offS z true sp (ks.take j) ≤ 1001000000) ∧ offS z true sp (ks.take (j + 1)) = offS z true sp (ks.take j) + ((z ks[j]).1 + sp) ∧ ((0 ≤ (z ks[j]).1 ∧ (z ks[j]).1 ≤ 1000000) ∧ 0 ≤ (z ks[j]).2 ∧ (z ks[j]).2 ≤ 1000000) from by
    have hof := off_nn (z := z) (a := true) h0 h1 (ks.take j) fun k hk => hkb k (List.mem_of_mem_take hk)
    have hlt : ((ks.take j).length : Int) ≤ 1000 := by rw [List.length_take]; omega
    refine ⟨⟨hof.1, by omega⟩, ?_, hkb _ (List.getElem_mem hj)⟩
    have htk : ks.take (j + 1) = ks.take j ++ [ks[j]] := by rw [List.take_add_one, List.getElem?_eq_getElem hj]; rfl
    rw [htk, offS_snoc, if_pos rfl])
  have HO0 := hid (show offS z true sp (ks.take 0) = 0 from rfl)
  have HTM := hid (show ks.take ks.length = ks from List.take_length)
  have HPRE := hid fun (w' : World) (s' : Value) (L' : List Spot) (h : PutR B w1 s L' w' s') => h.pre hb1
  have HBZ := hid fun (wr w2 : World) (sj : Value) (L' : List Spot) (hpr : PutR B w1 s L' wr sj) (h2 : Below wr.heap.size wr w2) => (show B ≤ w2.heap.size ∧ w2.ownsRow B 115 5 sj L'.length (flat5 L') ∧ Below W0.heap.size W0 w2 ∧ (w2.cell? ⟨W.heap.size, 0, none⟩ = some (.slice (some ⟨b, o, none⟩) ks.length c) ∧ w2.cell? ⟨W.heap.size, 1, none⟩ = some (.int .i64 sp)) from by
    have z3 := hpr.gr.size; have z4 := h2.size
    obtain ⟨⟨d0, d1⟩, d2⟩ := hcs wr sj L' hpr
    exact ⟨by omega, own_keep hpr.own h2, d2.trans (h2.mono d2.size), (h2.cell (p := ⟨W.heap.size, 0, none⟩) (by show W.heap.size < _; omega)).trans d0, (h2.cell (p := ⟨W.heap.size, 1, none⟩) (by show W.heap.size < _; omega)).trans d1⟩)
  have hM2 : M ≤ 100000000000000 := by omega
  obtain ⟨Z1, Z2⟩ := Z
  simp only [] at hZb
  obtain ⟨m, hmm⟩ : ∃ m, m = ks.length := ⟨_, rfl⟩
  have HM := hid hmm
  have HW1 := hid hw1; have HS1 := hid hsize
  clear hX hY hown hown1 hw1 hb1 hL hz1 hbW hB0 hB hsz0 hq hc hbd hkb hZ2 hstart hcs hb01 hlz hZ hZe hsize HSZ hmm
  rw [← HM.out] at c0 HS1 hm hm2 HW1 HBZ ⊢
  go_enter Tryz.func119, Tryz.ntmps119
  go_upto_region 1 with (fail)
  rw [← HW1.out]
  clear HW1
  obtain ⟨B0, hB0⟩ : ∃ B0, B0 = W.heap.size := ⟨_, rfl⟩
  rw [← hB0] at c0 c1 HBZ
  rw [← hB0]
  clear hB0
  go_wp2_with (first | (go_at_call 120; refine HS1.out.mono ?_; rintro e w2 ⟨rfl, hb2⟩; obtain ⟨_, _, _, q0, q1⟩ := HBZ.out w1 w2 s _ HST.out hb2; have HS2 := hid (show PutR B w1 s (L ++ kidSp g z true sp (Z1, Z2) (ks.take 0) x y) w2 s from ⟨own_keep HST.out.own hb2, grown_pre hb2 (World.grownBy.refl _ _), fun q hq => .inl hq⟩); clear hb2 c0 c1))
  go_loopw [1, 2, 23] (fun v1 v2 v23 wr => ∃ j : Nat, j ≤ m ∧ v23 = .int .i64 j ∧ v2 = .int .i64 (X + 4 * offS z true sp (ks.take j)) ∧ Hid (PutR B w1 s (L ++ kidSp g z true sp (Z1, Z2) (ks.take j) x y) wr v1)) (fun _ _ v23 _ => m - (intOf v23).toNat)
  case atStart => exact ⟨0, by omega, rfl, by rw [HO0.out, Int.mul_zero, Int.add_zero], HS2⟩
  case round =>
    obtain ⟨j, hj, rfl, rfl, hP⟩ := hrel
    by_cases hjm : j < m
    · have hjl : j < ks.length := by rw [← HM.out]; exact hjm
      obtain ⟨_, hw0, hbw, q0', q1'⟩ := HBZ.out wr wr u1 _ hP.out (Below.refl _ _)
      obtain ⟨T, r, K, K2, d1, m1, f1, m2, f2, hsz, hput⟩ := HKD.out j hjl wr hbw
      obtain ⟨⟨o1, o2⟩, o3, ⟨z1, z2⟩, z3, z4⟩ := HOF.out j hjl
      have HSZ := hid hsz; have HPU := hid hput; have HBW := hid hbw
      have HO3 := hid o3
      have g0 : (j : Int) < (m : Int) := by omega
      generalize offS z true sp (ks.take j) = off at *
      generalize z ks[j] = zk at *
      obtain ⟨zk1, zk2⟩ := zk
      simp only [] at z1 z2 z3 z4 HSZ HPU HO3
      clear hsz hput hw0 hbw o3
      go_wp2_with (first | (refine (HSZ.out _ HBW.out).mono ?_; rintro e w4 ⟨rfl, hb4⟩; obtain ⟨y1, y2, y3, y4, y5⟩ := HBZ.out wr w4 u1 _ hP.out hb4; have HY1 := hid y1; have HY2 := hid y2; have HY3 := hid y3; have HB4 := hid hb4; clear hb4 q0' q1' y1 y2 y3) | (refine (HPU.out _ _ _ _ HY3.out rfl rfl HY1.out HY2.out).mono ?_; rintro e w5 ⟨s5, rfl, hp5⟩; have HP5 := hid (hP.out.next (hp5.pre HB4.out)); obtain ⟨_, _, _, x4, x5⟩ := HBZ.out w5 w5 s5 _ HP5.out (Below.refl _ _); clear hp5 y4 y5))
      go_roundw
      case rel => exact ⟨j + 1, by omega, by go_num, by rw [HO3.out]; go_num, HP5⟩
      case measure => simp [intOf]; omega
    · obtain rfl : j = m := by omega
      have g0 : decide ((j : Int) < (j : Int)) = false := by simp
      have hP2 := hid (show PutR B w1 s (L ++ kidSp g z true sp (Z1, Z2) ks x y) wr u1 from by have h := hP.out; rw [HM.out, HTM.out] at h; exact h)
      go_wp2_with fail
      go_ret
      exact ⟨_, rfl, HPRE.out _ _ _ hP2.out⟩
end Go.Proofs.YtimblabaeclhpaaGreat

/- WALK: kids that stand one above the other put what they are (printed by gen_putw4.py). -/
namespace Go.Proofs.YtimblabaeclhpaaGreat
open Go.RowKit
set_option maxRecDepth 100000 in
set_option maxHeartbeats 4000000 in
theorem abovePut_any (ks : List Nat) (z : Nat → Int × Int) (g : Nat → Int → Int → List Spot) (cn : Nat → Nat) (M M' : Int) (hM : M + 10000000000 ≤ M') (hM' : M' ≤ 100000000000000) (vs : List Value) (A : Option Addr) (c : Nat) (sp : Int) (h0 : 0 ≤ sp) (h1 : sp ≤ 1000) (hm : 1 ≤ ks.length) (hm2 : ks.length ≤ 1000) (Z : Int × Int) (hZ : Z = putS false sp (ks.map z)) (hZe : Z.1 % 4 = 0) (W0 : World) (hq : RowQ W0 A ks z g cn M' vs)
    (W : World) (hbW : Below W0.heap.size W0 W) (B : Nat) (s : Value) (L : List Spot) (x y X Y : Int) (hX : X = 4 * x) (hY : Y = 4 * y) (hX0 : 0 ≤ X) (hX1 : X ≤ M) (hY0 : 0 ≤ Y) (hY1 : Y ≤ M) (hB0 : W0.heap.size ≤ B) (hB : B ≤ W.heap.size) (hown : W.ownsRow B 115 5 s L.length (flat5 L)) (hL : L.length + (ks.map cn).sum ≤ 900000) :
    Calls Tryz.prog 121 #[.agg #[.slice A ks.length c, .int .i64 sp], s, .int .i64 X, .int .i64 Y] W fun e w' => ∃ s', e = .returned s' ∧ PutR B W s (L ++ kidSp g z false sp Z ks x y) w' s' := by
  obtain ⟨w1, hw1⟩ : ∃ w1, w1 = W.alloc (.cells #[.slice A ks.length c, .int .i64 sp] 140) := ⟨_, rfl⟩
  have hb1 : Below W.heap.size W w1 := by rw [hw1]; exact (Below.refl _ _).alloc (Nat.le_refl _) _
  have hz1 : w1.heap.size = W.heap.size + 1 := by rw [hw1]; simp
  have c0 : w1.cell? ⟨W.heap.size, 0, none⟩ = some (.slice A ks.length c) := by rw [hw1]; exact cell_here rfl rfl
  have c1 : w1.cell? ⟨W.heap.size, 1, none⟩ = some (.int .i64 sp) := by rw [hw1]; exact cell_here rfl rfl
  have hsz0 := hbW.size
  have hb01 : Below W0.heap.size W0 w1 := hbW.trans (hb1.mono hsz0)
  have hlz : (ks.map z).length = ks.length := List.length_map ..
  have hsize := aboveSize_any (ks.map z) vs A c sp h0 h1 (by omega) (by omega) w1 (hq.row.below hb01)
  rw [hlz, ← hZ] at hsize
  have HSZ := hid hsize
  have hbd := hq.row.bd
  have hkb : ∀ k ∈ ks, (0 ≤ (z k).1 ∧ (z k).1 ≤ 1000000) ∧ 0 ≤ (z k).2 ∧ (z k).2 ≤ 1000000 := fun k hk => hbd _ (List.mem_map_of_mem hk)
  have hZ2 : ∀ k ∈ ks, (z k).1 ≤ Z.1 := fun k hk => by
    rw [hZ]
    exact mem_max (List.mem_map_of_mem (f := Prod.fst) (List.mem_map_of_mem (f := z) hk))
  have hZb : 0 ≤ Z.1 ∧ Z.1 ≤ 1000000 := by
    rw [hZ]
    exact max_bd fun x hx => by obtain ⟨y, hy, rfl⟩ := List.mem_map.1 hx; exact (hbd y hy).1
  have hown1 := own_keep hown hb1
  obtain ⟨b, o, hA, hbB, hc⟩ := Reads.at0 hq.row.row (by omega) (by rw [hq.row.len]; omega)
  subst hA
  have hcs : ∀ (wr : World) (sj : Value) (L' : List Spot), PutR B w1 s L' wr sj → (wr.cell? ⟨W.heap.size, 0, none⟩ = some (.slice (some ⟨b, o, none⟩) ks.length c) ∧ wr.cell? ⟨W.heap.size, 1, none⟩ = some (.int .i64 sp)) ∧ Below W0.heap.size W0 wr := fun wr sj L' hpr =>
    ⟨⟨(hpr.cell hown (Nat.le_refl _) (by omega)).trans c0, (hpr.cell hown (Nat.le_refl _) (by omega)).trans c1⟩, hb01.trans ((hpr.bel hown1 (by omega)).mono hB0)⟩
  have HCS := hid hcs
  have hstart : PutR B w1 s (L ++ kidSp g z false sp Z (ks.take 0) x y) w1 s := by
    rw [List.take_zero, kidSp, List.append_nil]
    exact ⟨hown1, World.grownBy.refl _ _, fun q hq => .inl hq⟩
  have HST := hid hstart
  have HKD := hid fun (j : Nat) (hj : j < ks.length) (wr : World) (hb : Below W0.heap.size W0 wr) => (show ∃ (T : TypeId) (r : Value) (K K2 : Nat), wr.cell? ⟨b, o + j, none⟩ = some (.iface T r) ∧
      (∀ (k : Nat) (w : World), (method (k + 1) T r "ostracon/grid.size").run Tryz.prog w = .ok (K, r) w) ∧ (∀ w : World, (callFunc K #[r]).run Tryz.prog w = .ok (.enter K #[r]) w) ∧
      (∀ (k : Nat) (w : World), (method (k + 1) T r "ostracon/grid.put").run Tryz.prog w = .ok (K2, r) w) ∧ (∀ (a b c : Value) (w : World), (callFunc K2 #[r, a, b, c]).run Tryz.prog w = .ok (.enter K2 #[r, a, b, c]) w) ∧
      (∀ V, Below W0.heap.size W0 V → Calls Tryz.prog K #[r] V fun e w' => e = .returned (.tuple #[.int .i64 (z ks[j]).1, .int .i64 (z ks[j]).2]) ∧ Below V.heap.size V w') ∧
      (∀ (V : World) (sj : Value) (X' Y' : Int), Below W0.heap.size W0 V → X' = X + 2 * (Z.1 - (z ks[j]).1) → Y' = Y + 4 * offS z false sp (ks.take j) → B ≤ V.heap.size → V.ownsRow B 115 5 sj (L ++ kidSp g z false sp Z (ks.take j) x y).length (flat5 (L ++ kidSp g z false sp Z (ks.take j) x y)) →
        Calls Tryz.prog K2 #[r, sj, .int .i64 X', .int .i64 Y'] V fun e w' => ∃ s', e = .returned s' ∧ PutR B V sj (L ++ kidSp g z false sp Z (ks.take (j + 1)) x y) w' s') from by
    have hjl : j < (ks.map z).length := by rw [hlz]; exact hj
    obtain ⟨v, hv, hz⟩ := hq.row.kid j hjl
    obtain ⟨v2, hv2, hp⟩ := hq.put j hj
    rw [hv] at hv2
    injection hv2 with hv2
    subst hv2
    rw [List.getElem_map] at hz
    obtain ⟨T, r, K, e1, a1, a2, a3⟩ := hz
    obtain ⟨T2, r2, K2, e2, b1, b2, b3⟩ := hp
    rw [e1] at e2
    injection e2 with e3 e4
    subst e3 e4
    refine ⟨T, r, K, K2, ?_, a1, a2, b1, b2, a3, fun V sj X' Y' hV hX' hY' hBV ho => ?_⟩
    · rw [← e1]
      exact (hb.cell (p := ⟨b, o + j, none⟩) hbB).trans (hc j v hv)
    · have htk : ks.take (j + 1) = ks.take j ++ [ks[j]] := by rw [List.take_add_one, List.getElem?_eq_getElem hj]; rfl
      have hkm := List.getElem_mem hj
      have hof := off_nn (z := z) (a := false) h0 h1 (ks.take j) fun k hk => hkb k (List.mem_of_mem_take hk)
      have hlt : ((ks.take j).length : Int) ≤ 1000 := by rw [List.length_take]; omega
      have hzz := hZ2 _ hkm
      have hev := (hq.ev _ hkm).1
      have hkbj := hkb _ hkm
      have hlen := kidSp_len (z := z) (a := false) (sp := sp) (Z := Z) (cn := cn) (ks.take j) (fun k hk => hq.len k (List.mem_of_mem_take hk)) x y
      have hsum : ((ks.take j).map cn).sum + cn ks[j] ≤ (ks.map cn).sum := by
        have e : ks = ks.take (j + 1) ++ ks.drop (j + 1) := (List.take_append_drop _ _).symm
        have e2 : (ks.map cn).sum = ((ks.take (j + 1)).map cn).sum + ((ks.drop (j + 1)).map cn).sum := by rw [← List.sum_append, ← List.map_append, ← e]
        rw [e2, htk, List.map_append, List.sum_append]
        simp
      have h := b3 V hV B sj _ (x + (Z.1 - (z ks[j]).1) / 2) (y + offS z false sp (ks.take j)) X' Y' (by omega) (by omega) (by omega) (by omega) (by omega) (by omega) hB0 hBV ho (by rw [List.length_append]; omega)
      refine h.mono fun e w' ⟨s', f1, f2⟩ => ⟨s', f1, ?_⟩
      rw [htk, kidSp_snoc, if_neg (by decide), ← List.append_assoc]
      exact f2)
  have HOF := hid fun (j : Nat) (hj : j < ks.length) => (show (0 ≤ offS z false sp (ks.take j) ∧ offS z false sp (ks.take j) ≤ 1001000000) ∧ offS z false sp (ks.take (j + 1)) = offS z false sp (ks.take j) + ((z ks[j]).2 + sp) ∧ ((0 ≤ (z ks[j]).1 ∧ (z ks[j]).1 ≤ 1000000) ∧ 0 ≤ (z ks[j]).2 ∧ (z ks[j]).2 ≤ 1000000) from by
    have hof := off_nn (z := z) (a := false) h0 h1 (ks.take j) fun k hk => hkb k (List.mem_of_mem_take hk)
    have hlt : ((ks.take j).length : Int) ≤ 1000 := by rw [List.length_take]; omega
    refine ⟨⟨hof.1, by omega⟩, ?_, hkb _ (List.getElem_mem hj)⟩
    have htk : ks.take (j + 1) = ks.take j ++ [ks[j]] := by rw [List.take_add_one, List.getElem?_eq_getElem hj]; rfl
    rw [htk, offS_snoc, if_neg (by decide)])
  have HO0 := hid (show offS z false sp (ks.take 0) = 0 from rfl)
  have HTM := hid (show ks.take ks.length = ks from List.take_length)
  have HPRE := hid fun (w' : World) (s' : Value) (L' : List Spot) (h : PutR B w1 s L' w' s') => h.pre hb1
  have HBZ := hid fun (wr w2 : World) (sj : Value) (L' : List Spot) (hpr : PutR B w1 s L' wr sj) (h2 : Below wr.heap.size wr w2) => (show B ≤ w2.heap.size ∧ w2.ownsRow B 115 5 sj L'.length (flat5 L') ∧ Below W0.heap.size W0 w2 ∧ (w2.cell? ⟨W.heap.size, 0, none⟩ = some (.slice (some ⟨b, o, none⟩) ks.length c) ∧ w2.cell? ⟨W.heap.size, 1, none⟩ = some (.int .i64 sp)) from by
    have z3 := hpr.gr.size; have z4 := h2.size
    obtain ⟨⟨d0, d1⟩, d2⟩ := hcs wr sj L' hpr
    exact ⟨by omega, own_keep hpr.own h2, d2.trans (h2.mono d2.size), (h2.cell (p := ⟨W.heap.size, 0, none⟩) (by show W.heap.size < _; omega)).trans d0, (h2.cell (p := ⟨W.heap.size, 1, none⟩) (by show W.heap.size < _; omega)).trans d1⟩)
  have hM2 : M ≤ 100000000000000 := by omega
  obtain ⟨Z1, Z2⟩ := Z
  simp only [] at hZb
  obtain ⟨m, hmm⟩ : ∃ m, m = ks.length := ⟨_, rfl⟩
  have HM := hid hmm
  have HW1 := hid hw1; have HS1 := hid hsize
  clear hX hY hown hown1 hw1 hb1 hL hz1 hbW hB0 hB hsz0 hq hc hbd hkb hZ2 hstart hcs hb01 hlz hZ hZe hsize HSZ hmm
  rw [← HM.out] at c0 HS1 hm hm2 HW1 HBZ ⊢
  go_enter Tryz.func121, Tryz.ntmps121
  go_upto_region 1 with (fail)
  rw [← HW1.out]
  clear HW1
  obtain ⟨B0, hB0⟩ : ∃ B0, B0 = W.heap.size := ⟨_, rfl⟩
  rw [← hB0] at c0 c1 HBZ
  rw [← hB0]
  clear hB0
  go_wp2_with (first | (go_at_call 122; refine HS1.out.mono ?_; rintro e w2 ⟨rfl, hb2⟩; obtain ⟨_, _, _, q0, q1⟩ := HBZ.out w1 w2 s _ HST.out hb2; have HS2 := hid (show PutR B w1 s (L ++ kidSp g z false sp (Z1, Z2) (ks.take 0) x y) w2 s from ⟨own_keep HST.out.own hb2, grown_pre hb2 (World.grownBy.refl _ _), fun q hq => .inl hq⟩); clear hb2 c0 c1))
  go_loopw [1, 3, 23] (fun v1 v2 v23 wr => ∃ j : Nat, j ≤ m ∧ v23 = .int .i64 j ∧ v2 = .int .i64 (Y + 4 * offS z false sp (ks.take j)) ∧ Hid (PutR B w1 s (L ++ kidSp g z false sp (Z1, Z2) (ks.take j) x y) wr v1)) (fun _ _ v23 _ => m - (intOf v23).toNat)
  case atStart => exact ⟨0, by omega, rfl, by rw [HO0.out, Int.mul_zero, Int.add_zero], HS2⟩
  case round =>
    obtain ⟨j, hj, rfl, rfl, hP⟩ := hrel
    by_cases hjm : j < m
    · have hjl : j < ks.length := by rw [← HM.out]; exact hjm
      obtain ⟨_, hw0, hbw, q0', q1'⟩ := HBZ.out wr wr u1 _ hP.out (Below.refl _ _)
      obtain ⟨T, r, K, K2, d1, m1, f1, m2, f2, hsz, hput⟩ := HKD.out j hjl wr hbw
      obtain ⟨⟨o1, o2⟩, o3, ⟨z1, z2⟩, z3, z4⟩ := HOF.out j hjl
      have HSZ := hid hsz; have HPU := hid hput; have HBW := hid hbw
      have HO3 := hid o3
      have g0 : (j : Int) < (m : Int) := by omega
      generalize offS z false sp (ks.take j) = off at *
      generalize z ks[j] = zk at *
      obtain ⟨zk1, zk2⟩ := zk
      simp only [] at z1 z2 z3 z4 HSZ HPU HO3
      clear hsz hput hw0 hbw o3
      go_wp2_with (first | (refine (HSZ.out _ HBW.out).mono ?_; rintro e w4 ⟨rfl, hb4⟩; obtain ⟨y1, y2, y3, y4, y5⟩ := HBZ.out wr w4 u1 _ hP.out hb4; have HY1 := hid y1; have HY2 := hid y2; have HY3 := hid y3; have HB4 := hid hb4; clear hb4 q0' q1' y1 y2 y3) | (refine (HPU.out _ _ _ _ HY3.out rfl rfl HY1.out HY2.out).mono ?_; rintro e w5 ⟨s5, rfl, hp5⟩; have HP5 := hid (hP.out.next (hp5.pre HB4.out)); obtain ⟨_, _, _, x4, x5⟩ := HBZ.out w5 w5 s5 _ HP5.out (Below.refl _ _); clear hp5 y4 y5))
      go_roundw
      case rel => exact ⟨j + 1, by omega, by go_num, by rw [HO3.out]; go_num, HP5⟩
      case measure => simp [intOf]; omega
    · obtain rfl : j = m := by omega
      have g0 : decide ((j : Int) < (j : Int)) = false := by simp
      have hP2 := hid (show PutR B w1 s (L ++ kidSp g z false sp (Z1, Z2) ks x y) wr u1 from by have h := hP.out; rw [HM.out, HTM.out] at h; exact h)
      go_wp2_with fail
      go_ret
      exact ⟨_, rfl, HPRE.out _ _ _ hP2.out⟩
end Go.Proofs.YtimblabaeclhpaaGreat

/- A figure as it lies in memory puts the spots of its node. -/
namespace Go.Proofs.YtimblabaeclhpaaGreat
open Go.RowKit
theorem PutC.more {W : World} {v : Value} {S : Int → Int → List Spot} {n n' : Nat} {M M' : Int} (h : PutC W v S n M) (hn : n ≤ n') (hM : M' ≤ M) : PutC W v S n' M' := by
  obtain ⟨T, r, K, e, hm, hf, hc⟩ := h
  exact ⟨T, r, K, e, hm, hf, fun V hV B s L x y X Y a1 a2 a3 a4 a5 a6 a7 a8 a9 a10 => hc V hV B s L x y X Y a1 a2 a3 (by omega) a5 (by omega) a7 a8 a9 (by omega)⟩
theorem PutC.is {W : World} {v : Value} {S S' : Int → Int → List Spot} {n : Nat} {M : Int} (h : PutC W v S n M) (hS : ∀ x y, S x y = S' x y) : PutC W v S' n M := by
  have e : S = S' := funext fun x => funext fun y => hS x y
  exact e ▸ h
theorem putc_row (W0 : World) (a : Bool) (ks : List Nat) (z : Nat → Int × Int) (g : Nat → Int → Int → List Spot) (cn : Nat → Nat) (M M' : Int) (hM : M + 10000000000 ≤ M') (hM' : M' ≤ 100000000000000) (vs : List Value) (A : Option Addr) (c : Nat) (sp : Int) (h0 : 0 ≤ sp) (h1 : sp ≤ 1000) (hm : 1 ≤ ks.length) (hm2 : ks.length ≤ 1000) (Z : Int × Int) (hZ : Z = putS a sp (ks.map z)) (hZ1 : Z.1 % 4 = 0) (hZ2 : Z.2 % 4 = 0) (hq : RowQ W0 A ks z g cn M' vs) :
    PutC W0 (.iface (if a then 139 else 140) (.agg #[.slice A ks.length c, .int .i64 sp])) (fun x y => kidSp g z a sp Z ks x y) (ks.map cn).sum M := by
  cases a with
  | true => exact ⟨139, _, 119, rfl, fun _ _ => by kernel_rfl, fun _ _ _ _ => by kernel_rfl, fun V hV B s L x y X Y hX hY a1 a2 a3 a4 a5 hB ho hL => besidePut_any ks z g cn M M' hM hM' vs A c sp h0 h1 hm hm2 Z hZ hZ2 W0 hq V hV B s L x y X Y hX hY a1 a2 a3 a4 a5 hB ho hL⟩
  | false => exact ⟨140, _, 121, rfl, fun _ _ => by kernel_rfl, fun _ _ _ _ => by kernel_rfl, fun V hV B s L x y X Y hX hY a1 a2 a3 a4 a5 hB ho hL => abovePut_any ks z g cn M M' hM hM' vs A c sp h0 h1 hm hm2 Z hZ hZ1 W0 hq V hV B s L x y X Y hX hY a1 a2 a3 a4 a5 hB ho hL⟩
theorem spots_len {P : Int} {ss : List Sg} {l : List Nd} {rows : Bool} (hp : Pln P ss l) : ∀ (f i : Nat), i < l.length → l.length ≤ f + i → ∀ x y, (spotsN ss l rows f i x y).length ≤ spn l i
  | 0, i, h, h1, _, _ => by omega
  | f + 1, i, hi, hf, x, y => by
    have hs := spn_pos l i
    have hk := kids_spn (l := l) hi
    unfold spotsN
    split
    · exact hs
    · split
      · rename_i h4
        rw [(over_kids hp.val hi h4).1] at hk
        have a1 := spn_pos l (i + 1)
        have a2 := spn_pos l (i + 2)
        simp at hk ⊢
        omega
      · have h := kidSp_len (g := spotsN ss l rows f) (z := szN ss l rows f) (a := acr rows (nd l i)) (sp := spcOf (nd l i)) (Z := inZ rows l (szN ss l rows f) i) (cn := spn l) (kidsOf l (i : Int)) (fun k hk => by
          have hm := kidsOf_mem (l := l) (node := (i : Int)) (by omega) (by omega) hk
          exact spots_len hp f k hm.2 (by omega)) (x + brd (nd l i)) (y + brd (nd l i))
        rw [List.length_append]
        split <;> simp <;> omega
theorem row_put {P : Int} {ss : List Sg} {l : List Nd} {rows : Bool} (hp : Pln P ss l) {ok : Nat → Prop} {W : World} (hok : ∀ b, ok b → b < W.heap.size) {f i : Nat} {v : Value} (hi : i < l.length) (hk : leafB (kd l i) = false) (hf : l.length ≤ f + (i + 1)) (M M' : Int) (hM : M + 10000000000 ≤ M') (hM' : M' ≤ 100000000000000) (hz1 : (inZ rows l (szN ss l rows f) i).1 % 4 = 0) (hz2 : (inZ rows l (szN ss l rows f) i).2 % 4 = 0)
    (ih : ∀ k, k < l.length → l.length ≤ f + k → ∀ u, FigAt ss l rows ok W f k u → PutC W u (spotsN ss l rows f k) (spn l k) M') (h : RowF ok W (FigAt ss l rows ok W f) l rows i v) :
    PutC W v (fun x y => kidSp (spotsN ss l rows f) (szN ss l rows f) (acr rows (nd l i)) (spcOf (nd l i)) (inZ rows l (szN ss l rows f) i) (kidsOf l (i : Int)) x y) ((kidsOf l (i : Int)).map (spn l)).sum M := by
  obtain ⟨A, c, vs, rfl, hr0, hks⟩ := h
  have hr := hr0.reads hok
  have hl := hr0.1
  have hmem : ∀ k ∈ kidsOf l (i : Int), i < k ∧ k < l.length := fun k hk => by
    have := kidsOf_mem (l := l) (node := (i : Int)) (by omega) (by omega) hk
    omega
  have hsp := spc_ok hp.val hi
  have hne := kids_ne hp.val hi hk
  have hlen := kidsOf_len (l := l) (node := (i : Int)) (by omega)
  have hn := hp.len
  have hpos : 1 ≤ (kidsOf l (i : Int)).length := List.length_pos_iff.2 hne
  have hmo : ∀ k ∈ kidsOf l (i : Int), SzOk 26380 (szN ss l rows f k) := fun k hk => szN_small (rows := rows) hp (hmem k hk).2 (by have := hmem k hk; omega)
  refine putc_row W (acr rows (nd l i)) _ (szN ss l rows f) (spotsN ss l rows f) (spn l) M M' hM hM' vs A c (spcOf (nd l i)) (by omega) (by omega) (by omega) (by omega) (inZ rows l (szN ss l rows f) i) rfl hz1 hz2 ⟨⟨by rw [List.length_map]; exact hr, by rw [List.length_map]; exact hl, fun j hj => ?_, fun z hz => ?_⟩, fun j hj => ?_, fun k hk x y => spots_len hp f k (hmem k hk).2 (by have := hmem k hk; omega) x y, fun k hk => ⟨(hmo k hk).m1, (hmo k hk).m2⟩⟩
  · have hj2 : j < (kidsOf l (i : Int)).length := by rw [List.length_map] at hj; exact hj
    obtain ⟨u, h1, h2⟩ := hks j hj2
    refine ⟨u, h1, ?_⟩
    rw [List.getElem_map]
    have hm := hmem _ (List.getElem_mem hj2)
    exact fig_size hp hok f _ hm.2 (by omega) u h2
  · obtain ⟨k, hk2, rfl⟩ := List.mem_map.1 hz
    have ok := hmo k hk2
    have a1 := ok.p1; have a2 := ok.p2; have a3 := ok.b1; have a4 := ok.b2
    exact ⟨⟨by omega, by omega⟩, by omega, by omega⟩
  · obtain ⟨u, h1, h2⟩ := hks j hj
    have hm := hmem _ (List.getElem_mem hj)
    exact ⟨u, h1, ih _ hm.2 (by omega) u h2⟩
/-- A figure puts the spots of its node. -/
theorem fig_put {P : Int} {ss : List Sg} {l : List Nd} {rows : Bool} (hp : Pln P ss l) {ok : Nat → Prop} {W : World} (hok : ∀ b, ok b → b < W.heap.size) : ∀ (f i : Nat), i < l.length → l.length ≤ f + i → ∀ v, FigAt ss l rows ok W f i v → PutC W v (spotsN ss l rows f i) (spn l i) (20000000000 * (1000 - (f : Int)))
  | 0, i, h, h1, _, _ => by omega
  | f + 1, i, hi, hf, v, h => by
    have hsz := szN_small (rows := rows) hp hi hf
    have hs := spn_pos l i
    have hks := kids_spn (l := l) hi
    unfold FigAt at h
    unfold szN at hsz
    have hSP : ∀ x y, spotsN ss l rows (f + 1) i x y = _ := fun x y => by unfold spotsN; exact rfl
    by_cases h1 : leafB (kd l i) = true
    · rw [if_pos h1] at h hsz
      subst h
      have a1 := hsz.p1; have a2 := hsz.p2; have a3 := hsz.b1; have a4 := hsz.b2
      refine ((putc_leaf W _ i _ _ (by omega) (by omega) (by omega) (by omega)).more hs (Int.le_refl _)).is fun x y => ?_
      rw [hSP, if_pos h1]
      unfold szN
      rw [if_pos h1]
    · rw [if_neg h1] at h hsz
      by_cases h4 : kd l i = 4
      · rw [if_pos h4] at h hsz
        subst h
        have a1 := hsz.p1; have a2 := hsz.p2; have a3 := hsz.b1; have a4 := hsz.b2
        have hn2 : 2 ≤ spn l i := by
          rw [(over_kids hp.val hi h4).1] at hks
          have b1 := spn_pos l (i + 1)
          have b2 := spn_pos l (i + 2)
          simp at hks
          omega
        refine ((putc_over W _ (by omega) (i + 1) (i + 2) _ _ _ _ (by omega) (by omega) (by omega) (by omega) hsz.m1 hsz.m2).more hn2 (Int.le_refl _)).is fun x y => ?_
        rw [hSP, if_neg h1, if_pos h4]
        unfold szN
        rw [if_neg h1, if_pos h4]
      · rw [if_neg h4] at h hsz
        have hk : leafB (kd l i) = false := by simpa using h1
        have ih := fun (k : Nat) (hk2 : k < l.length) (hf2 : l.length ≤ f + k) (u : Value) (hu : FigAt ss l rows ok W f k u) => fig_put hp hok f k hk2 hf2 u hu
        by_cases h5 : kd l i = 5
        · rw [if_pos h5] at h hsz
          obtain ⟨u, hu, rfl⟩ := h
          have a1 := hsz.p1; have a2 := hsz.p2; have a3 := hsz.b1; have a4 := hsz.b2; have a5 := hsz.m1; have a6 := hsz.m2
          simp only [] at a1 a2 a3 a4 a5 a6
          have hrow := row_put hp hok hi hk (by omega) (20000000000 * (1000 - (f : Int)) - 10000000000) _ (by omega) (by omega) (by omega) (by omega) ih hu
          have hsz2 := row_size hp hok hi hk (by omega) (fun k hk2 hf2 u hu => fig_size hp hok f k hk2 hf2 u hu) hu
          have hnn := inZ_nn (rows := rows) (l := l) (z := szN ss l rows f) (i := i) (fun k hk => by
            have hm := kidsOf_mem (l := l) (node := (i : Int)) (by omega) (by omega) hk
            have o := szN_small (rows := rows) hp (f := f) (i := k) (by omega) (by omega)
            have := o.p1; have := o.p2
            omega) (kids_ne hp.val hi hk) (spc_ok hp.val hi).1
          have hr := putc_ring W i u _ _ _ (20000000000 * (1000 - ((f + 1 : Nat) : Int))) _ (by simp only [Int.natCast_add]; omega) (by omega) hnn.1 (by omega) hnn.2 (by omega) hsz2 hrow
          refine (hr.more (by omega) (Int.le_refl _)).is fun x y => ?_
          have hkk : (nd l i).kind = 5 := by rw [nd_at hi, ← kd_at hi]; exact h5
          have hb : brd (nd l i) = 12 := if_pos hkk
          rw [hSP, if_neg h1, if_neg h4, if_pos h5, hb]
          unfold szN
          rw [if_neg h1, if_neg h4, if_pos h5]
          rfl
        · rw [if_neg h5] at h hsz
          have hrow := row_put hp hok hi hk (by omega) (20000000000 * (1000 - ((f + 1 : Nat) : Int))) _ (by simp only [Int.natCast_add]; omega) (by omega) hsz.m1 hsz.m2 ih h
          refine (hrow.more (by omega) (Int.le_refl _)).is fun x y => ?_
          have hkk : (nd l i).kind ≠ 5 := by rw [nd_at hi, ← kd_at hi]; exact h5
          have hb : brd (nd l i) = 0 := if_neg hkk
          rw [hSP, if_neg h1, if_neg h4, if_neg h5, hb, Int.add_zero, Int.add_zero, List.nil_append]
end Go.Proofs.YtimblabaeclhpaaGreat
