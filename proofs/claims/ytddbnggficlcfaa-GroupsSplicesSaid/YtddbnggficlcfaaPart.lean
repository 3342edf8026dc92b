/- groups.part, ostraconref02.Below: a node and all below it. -/
import Derived.Test.YtddbnggficlcfaaMirW
import Derived.Deep.RegionLaw
namespace Go.Proofs.Ytddbnggficlcfaa
open Go.RowKit Go.Shelf
theorem bnx {w1 w w' : World} (h : Below w1.heap.size w1 w) (hb : Below w.heap.size w w') : Below w1.heap.size w1 w' := h.trans (hb.mono h.size)
theorem flatN_drop (l : List Nd) : ∀ k, flatN (l.drop k) = (flatN l).drop (k * 8) := by
  induction l with
  | nil => intro k; simp [flatN]
  | cons a l ih =>
    intro k
    cases k with
    | zero => simp
    | succ k =>
      rw [List.drop_succ_cons, ih k]
      unfold flatN
      rw [List.flatMap_cons, List.drop_append]
      have e1 : (k + 1) * 8 - a.cells.length = k * 8 := by simp only [Nd.cells, List.length_cons, List.length_nil]; omega
      have e2 : a.cells.drop ((k + 1) * 8) = [] := List.drop_eq_nil_of_le (by simp only [Nd.cells, List.length_cons, List.length_nil]; omega)
      rw [e1, e2, List.nil_append]
theorem flatN_take (l : List Nd) : ∀ k, flatN (l.take k) = (flatN l).take (k * 8) := by
  induction l with
  | nil => intro k; simp [flatN]
  | cons a l ih =>
    intro k
    cases k with
    | zero => simp [flatN]
    | succ k =>
      rw [List.take_succ_cons]
      have h := ih k
      unfold flatN at h ⊢
      rw [List.flatMap_cons, List.flatMap_cons, List.take_append, h]
      have e1 : (k + 1) * 8 - a.cells.length = k * 8 := by simp only [Nd.cells, List.length_cons, List.length_nil]; omega
      have e2 : a.cells.take ((k + 1) * 8) = a.cells := List.take_of_length_le (by simp only [Nd.cells, List.length_cons, List.length_nil]; omega)
      rw [e1, e2]
/-- A stretch of a slice of nodes. -/
theorem Nds.part {w : World} {B b o i m : Nat} {l : List Nd} (h : Nds w B (some ⟨b, o, none⟩) l) (hm : i + m ≤ l.length) : Nds w B (some ⟨b, o + i * 8, none⟩) ((l.drop i).take m) := by
  have hl : ((l.drop i).take m).length = m := by simp; omega
  refine ⟨by rw [flatN_len], fun hn => ?_⟩
  rw [hl] at hn
  obtain ⟨ad, e, hb, hc⟩ := h.2 (by omega)
  injection e with e
  subst e
  refine ⟨_, rfl, hb, fun j u hu => ?_⟩
  rw [flatN_take, flatN_drop, List.getElem?_take] at hu
  split at hu
  · rw [List.getElem?_drop] at hu
    have := hc _ u hu
    rw [Addr.add_lit] at this ⊢
    rw [← this]
    congr 2
    omega
  · cases hu
/-- The first k nodes of a part. -/
def prtL (l : List Nd) (i k : Nat) : List Nd := ((l.drop i).take k).map (subN (dep l i))
def partOf (l : List Nd) (i : Nat) : List Nd := prtL l i (endOf l i - i)
theorem prtL_len {l : List Nd} {i k : Nat} (h : i + k ≤ l.length) : (prtL l i k).length = k := by unfold prtL; simp; omega
theorem prtL_s {l : List Nd} {i k : Nat} (h : i + k < l.length) : prtL l i (k + 1) = prtL l i k ++ [subN (dep l i) l[i + k]] := by
  unfold prtL
  rw [List.take_add_one, List.getElem?_drop, List.getElem?_eq_getElem h, Option.toList_some, List.map_append]
  rfl
theorem partOf_len {l : List Nd} {i : Nat} (h : i < l.length) : (partOf l i).length = endOf l i - i := prtL_len (by have := endOf_le h; have := endOf_gt l i; omega)
set_option maxRecDepth 100000 in
set_option maxHeartbeats 4000000 in
theorem part_any (l : List Nd) (i : Nat) (hi : i < l.length) (hl : l.length ≤ 1000000) (hdp : ∀ k, k < l.length → 0 ≤ dep l k ∧ dep l k ≤ 4) (A : Option Addr) (c : Nat) (hc : l.length ≤ c) (w : World) (r : Nds w w.heap.size A l) :
    Calls Try.prog 77 #[.slice A l.length c, .int .i64 i] w fun e w' => ∃ v, e = .returned (.agg #[v]) ∧ w'.ownsRow w.heap.size 78 8 v (partOf l i).length (flatN (partOf l i)) ∧ Below w.heap.size w w' := by
  obtain ⟨w1, hw1⟩ : ∃ w1, w1 = w.alloc (.cells #[.slice none 0 0] 27) := ⟨_, rfl⟩
  have hb1 : Below w.heap.size w w1 := by rw [hw1]; exact (Below.refl _ _).alloc (Nat.le_refl _) _
  have hz1 : w.heap.size < w1.heap.size := by rw [hw1]; simp
  have c4 : w1.cell? ⟨w.heap.size, 0, none⟩ = some (.slice none 0 0) := by rw [hw1]; exact cell_here rfl rfl
  have z4 : w1.frozen? ⟨w.heap.size, 0, none⟩ = false := by rw [hw1]; exact free_here rfl
  obtain ⟨b, o, rfl, hbB, hcell⟩ := r.at (by omega)
  have HEN := hid (end_any l i hi hl (some ⟨b, o, none⟩) c w1 w1.heap.size ((r.below hb1).more hb1.size))
  have h1 := endOf_gt l i; have h2 := endOf_le hi
  obtain ⟨m, hm⟩ : ∃ m, m = endOf l i - i := ⟨_, rfl⟩
  have hto : endOf l i = i + m := by omega
  obtain ⟨T, hT⟩ : ∃ T, T = (l.drop i).take m := ⟨_, rfl⟩
  have hml : T.length = m := by rw [hT]; simp; omega
  have hqq : ∀ k (h : k < T.length), T[k].depth = dep l (i + k) := by
    subst hT
    intro k h
    rw [dep_at (by omega)]
    simp
  have HCL := hid fun (W : World) (h : Below w.heap.size w W) => (by have := cloneN_any T (some ⟨b, o + i * 8, none⟩) m (by omega) W w.heap.size h.size (by rw [hT]; exact (r.below h).part (by omega)); rw [hml] at this; exact this : Calls Try.prog 78 #[.slice (some ⟨b, o + i * 8, none⟩) m m] W fun e w' => ∃ v, e = .returned v ∧ w'.ownsRow W.heap.size 78 8 v m (flatN T) ∧ Below W.heap.size W w')
  rw [hto] at HEN
  have hdd := fun k (h : k < m) => hdp (i + k) (by omega)
  have hdi := hdp i hi
  have hdc := (hcell i hi).depth
  rw [← dep_at hi] at hdc
  have hpo : partOf l i = T.map (subN (dep l i)) := by unfold partOf prtL; rw [hT, hm]
  rw [hpo]
  obtain ⟨d, hd⟩ : ∃ d, d = dep l i := ⟨_, rfl⟩
  rw [← hd] at hdi hdc ⊢
  have hlm : i + m ≤ l.length := by omega
  have hm0 : 0 < m := by omega
  obtain ⟨n, hn⟩ : ∃ n, n = l.length := ⟨_, rfl⟩
  rw [← hn] at HEN hc hl hi hlm ⊢
  have HW1 := hid hw1; have HB1 := hid hb1; have HML := hid hml; have HDD := hid hdd; have HQQ := hid hqq
  have HDC := hid fun (W : World) (h : Below w.heap.size w W) => (h.cell (p := ⟨b, o + i * 8 + 1, none⟩) hbB).trans hdc
  have HC4 := hid fun (wr : World) (h : Below w1.heap.size w1 wr) => (h.cell (p := ⟨w.heap.size, 0, none⟩) hz1).trans c4
  have HZ4 := hid fun (wr : World) (h : Below w1.heap.size w1 wr) => (h.frozen (p := ⟨w.heap.size, 0, none⟩) hz1).trans z4
  have g1 : (i : Int) < (n : Int) := by omega
  have g2 : ¬ (m = 0) := by omega
  have hd1 := hdi.1; have hd2 := hdi.2
  clear hw1 hb1 r hcell h1 h2 hm hto hml hdd hdi hdc hpo hqq hd hn hdp hT
  go_enter Try.func77, Try.ntmps77
  go_upto_region 1 with (fail)
  rw [← HW1.out]
  clear HW1
  obtain ⟨B0, hB0⟩ : ∃ B0, B0 = w.heap.size := ⟨_, rfl⟩
  rw [← hB0] at c4 z4 HC4 HZ4 hz1 ⊢
  have HB0 := hid hB0
  clear hB0
  go_wp2_with (first | (go_at_call 92; refine HEN.out.mono ?_; rintro e w2 ⟨rfl, q, rfl⟩) | (go_at_call 78; go_loud (refine (HCL.out _ (below_drewN HB1.out q)).mono ?_; rintro e w5 ⟨v5, rfl, ho5, hb5⟩; obtain ⟨A5, c5, rfl⟩ := own_slice ho5; have HO5 := hid (show w5.ownsRow w1.heap.size 78 8 (.slice A5 m c5) m (flatN T) from ho5); have HB5 := hid (bnx (below_drewN (Below.refl _ _) q) hb5); clear ho5 hb5)))
  have hlt : w.heap.size ≤ w1.heap.size := HB1.out.size
  go_loopw [19] (fun kv wr => ∃ k : Nat, k ≤ m ∧ kv = .int .i64 k ∧ Hid (wr.ownsRow w1.heap.size 78 8 (.slice A5 m c5) m (flatN (mixN (subN d) T k))) ∧ Hid (Below w1.heap.size w1 wr)) (fun kv _ => m - (intOf kv).toNat)
  case atStart => exact ⟨0, by omega, rfl, by rw [mixN_0]; exact HO5, HB5⟩
  case round =>
    obtain ⟨k, hk, rfl, hO, hB⟩ := hrel
    by_cases hkm : k < m
    · have hkl : k < T.length := by rw [HML.out]; exact hkm
      obtain ⟨g, c6, hv5, hgb, hgl⟩ := own_some hO.out (by omega)
      simp only [Value.slice.injEq, true_and] at hv5
      obtain ⟨rfl, rfl⟩ := hv5
      have hml := mixN_len (subN d) T k
      have hx := own_nd hO.out (by rw [hml]; exact HML.out) (k := k) (by rw [hml]; exact hkl)
      rw [mixN_get hkl] at hx
      have hx2 := hx.depth
      have hdd := HDD.out k hkm
      rw [HQQ.out k hkl] at hx2
      have hset := fun (W : World) (h : Below wr.heap.size wr W) => own_set (j := 1) (f := subN d) (u := .int .i64 (dep l (i + k) - d)) hO.out h hkl (by decide) (by rw [← HQQ.out k hkl]; rfl)
      have hnew := fun (W : World) (h : Below wr.heap.size wr W) (u : Value) => (bnx hB.out h).setCell (show w1.heap.size ≤ (⟨g, k * 8 + 1, none⟩ : Addr).block from hgb) u
      have zz := hO.out.frozenAt (k * 8 + 1)
      have pd := HDC.out wr (HB1.out.trans (hB.out.mono hlt))
      generalize dep l (i + k) = x at hx2 hdd hset
      have hx3 := hdd.1; have hx4 := hdd.2
      have g3 : (k : Int) < (m : Int) := by omega
      have HST := hid hset; have HNW := hid hnew
      clear hx hml hset hnew hdd hO
      go_wp2_with fail
      go_region_law (fail)
      all_goals
        go_wp2_with fail
        go_roundw
        case rel => exact ⟨k + 1, by omega, by go_num, hid (HST.out _ (Below.refl _ _)), hid (by first | exact HNW.out _ (Below.refl _ _) _ | exact (HNW.out _ (Below.refl _ _) _).drew)⟩
        case measure => simp [intOf]; omega
    · obtain rfl : m = k := by omega
      have g3 : decide (m < m) = false := by simp
      have p4 := HC4.out wr hB.out; have y4 := HZ4.out wr hB.out
      have hmx := mixN_all (subN d) T
      rw [HML.out] at hmx
      have hO2 := hO.out
      rw [hmx] at hO2
      have HO2 := hid hO2; have HBB := hid hB.out
      clear hO hB hmx hO2
      go_wp2_with fail
      have hq := World.cell?_setCell_same _ _ (.slice A5 m c5) p4
      have h9 := HO2.out
      have hbb : B0 < w1.heap.size := hz1
      have hb0 := HB0.out
      have hne : (Value.slice A5 m c5).ownBlock ≠ some B0 := fun he => by have := (h9.lt _ he).1; omega
      have h10 := own_base (ownsRow_setCell_other h9 (a := (⟨B0, 0, none⟩ : Addr)) hne (.slice A5 m c5)) hlt
      have h11 := (HB1.out.trans (HBB.out.mono hlt)).setCell (p := (⟨B0, 0, none⟩ : Addr)) (by simp; omega) (.slice A5 m c5)
      have hlm2 : (T.map (subN d)).length = m := by rw [List.length_map, HML.out]
      exact bodyPost_ret (v := .agg #[.slice A5 m c5]) (by simp [results, Try.results77, go_sem, hq]) rfl ⟨.slice A5 m c5, rfl, by rw [hlm2]; exact h10, h11⟩
end Go.Proofs.Ytddbnggficlcfaa
