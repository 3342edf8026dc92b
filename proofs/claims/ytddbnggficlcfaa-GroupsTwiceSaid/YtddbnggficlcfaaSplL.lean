/- PLAIN LAW: some groups of a text are replaced. -/
import Derived.Test.YtddbnggficlcfaaTextL
import Derived.Test.YtddbnggficlcfaaConc
namespace Go.Proofs.Ytddbnggficlcfaa
/-- Where group i begins; behind the last: the end of the text. -/
def posG (l : List Nd) (i : Nat) : Nat := (kidsOf l (-1) ++ [l.length]).getD i l.length
theorem kf_pos {l : List Nd} : ∀ (m k : Nat), l.length ≤ m + k → k ≤ l.length →
    (kidsFrom l l.length k ++ [l.length])[0]? = some k ∧ ∀ i (h : i < (kidsFrom l l.length k).length), (kidsFrom l l.length k ++ [l.length])[i + 1]? = some (endOf l (kidsFrom l l.length k)[i])
  | 0, k, h1, h2 => by
    obtain rfl : k = l.length := by omega
    rw [kidsFrom_stop (by omega)]
    exact ⟨rfl, fun i h => by simp at h⟩
  | m + 1, k, h1, h2 => by
    by_cases h : k < l.length
    · have hgt := endOf_gt l k
      obtain ⟨a1, a2⟩ := kf_pos (l := l) m (endOf l k) (by omega) (endOf_le h)
      rw [kidsFrom_s h]
      refine ⟨rfl, fun i hi => ?_⟩
      cases i with
      | zero =>
        rw [List.cons_append, List.getElem?_cons_succ, a1]
        rfl
      | succ i =>
        rw [List.cons_append, List.getElem?_cons_succ, a2 i (by simpa using hi)]
        rfl
    · rw [kidsFrom_stop h]
      obtain rfl : k = l.length := by omega
      exact ⟨rfl, fun i h => by simp at h⟩
theorem kidsOf_top (l : List Nd) : kidsOf l (-1) = kidsFrom l l.length 0 := rfl
theorem posG_0 (l : List Nd) : posG l 0 = 0 := by
  unfold posG
  rw [kidsOf_top, List.getD_eq_getElem?_getD, (kf_pos (l := l) l.length 0 (by omega) (by omega)).1]
  rfl
theorem posG_at {l : List Nd} {i : Nat} (h : i < (kidsOf l (-1)).length) : posG l i = (kidsOf l (-1))[i] := by
  unfold posG
  rw [List.getD_eq_getElem?_getD, List.getElem?_append_left h, List.getElem?_eq_getElem h]
  rfl
theorem posG_s {l : List Nd} {i : Nat} (h : i < (kidsOf l (-1)).length) : posG l (i + 1) = endOf l (posG l i) := by
  rw [posG_at h]
  unfold posG
  have hq : (kidsOf l (-1) ++ [l.length])[i + 1]? = some (endOf l (kidsOf l (-1))[i]) := (kf_pos (l := l) l.length 0 (by omega) (by omega)).2 i h
  rw [List.getD_eq_getElem?_getD, hq]
  rfl
theorem posG_end (l : List Nd) : posG l (kidsOf l (-1)).length = l.length := by
  unfold posG
  rw [List.getD_eq_getElem?_getD, List.getElem?_append_right (Nat.le_refl _)]
  simp
theorem posG_lt {l : List Nd} {i : Nat} (h : i < (kidsOf l (-1)).length) : posG l i < l.length := by
  rw [posG_at h]
  have := (kidsOf_mem (l := l) (node := -1) (by omega) (by omega) (List.getElem_mem h)).2
  omega
theorem posG_le {l : List Nd} {i : Nat} (h : i ≤ (kidsOf l (-1)).length) : posG l i ≤ l.length := by
  rcases Nat.eq_or_lt_of_le h with rfl | h
  · rw [posG_end]; exact Nat.le_refl _
  · exact Nat.le_of_lt (posG_lt h)
theorem posG_mono {l : List Nd} {i : Nat} : ∀ n, i + n ≤ (kidsOf l (-1)).length → posG l i ≤ posG l (i + n)
  | 0, _ => Nat.le_refl _
  | n + 1, h => by
    refine Nat.le_trans (posG_mono n (by omega)) ?_
    rw [← Nat.add_assoc, posG_s (by omega)]
    exact Nat.le_of_lt (endOf_gt _ _)
theorem posG_mono' {l : List Nd} {i j : Nat} (h : i ≤ j) (hj : j ≤ (kidsOf l (-1)).length) : posG l i ≤ posG l j := by
  obtain ⟨n, rfl⟩ : ∃ n, j = i + n := ⟨j - i, by omega⟩
  exact posG_mono n hj
theorem subN_0 (l : List Nd) : l.map (subN 0) = l := by
  have : subN 0 = id := by funext n; simp [subN]
  rw [this, List.map_id]
/-- A group as a part. -/
theorem part_grp {l : List Nd} (hw : WfN l) {i : Nat} (h : i < (kidsOf l (-1)).length) : partOf l (posG l i) = (l.drop (posG l i)).take (posG l (i + 1) - posG l i) := by
  have hd : dep l (posG l i) = 0 := by
    rw [posG_at h]
    have hm := List.getElem_mem h
    generalize (kidsOf l (-1))[i] = x at hm
    rw [← rkids_eq hw (by omega) (by omega)] at hm
    unfold rkids rkFrom at hm
    rw [if_neg (by omega)] at hm
    exact (rk_mem _ _ _ hm).2.2.1
  unfold partOf prtL
  rw [hd, subN_0, posG_s h]
theorem take_grp {l : List Nd} (hw : WfN l) {i : Nat} (h : i < (kidsOf l (-1)).length) : l.take (posG l (i + 1)) = l.take (posG l i) ++ partOf l (posG l i) := by
  have hm := posG_mono (l := l) (i := i) 1 (by omega)
  rw [part_grp hw h]
  have e : posG l (i + 1) = posG l i + (posG l (i + 1) - posG l i) := by omega
  conv => lhs; rw [e, List.take_add]
/-- The document's way: the first k rounds. -/
def spR (l wt : List Nd) (fr t2 : Int) : Nat → List Nd
  | 0 => []
  | i + 1 => (if (i : Int) = fr then spR l wt fr t2 i ++ wt else spR l wt fr t2 i) ++ (if i < (kidsOf l (-1)).length ∧ ((i : Int) < fr ∨ t2 ≤ i) then partOf l (posG l i) else [])
theorem spR_s (l wt : List Nd) (fr t2 : Int) (i : Nat) : spR l wt fr t2 (i + 1) = (if (i : Int) = fr then spR l wt fr t2 i ++ wt else spR l wt fr t2 i) ++ (if i < (kidsOf l (-1)).length ∧ ((i : Int) < fr ∨ t2 ≤ i) then partOf l (posG l i) else []) := rfl
/-- The program's way. -/
def spO (l wt : List Nd) (f t : Nat) : List Nd := l.take (posG l f) ++ wt ++ l.drop (posG l t)
theorem spR_inv {l wt : List Nd} (hw : WfN l) {f t : Nat} (h1 : f ≤ t) (h2 : t ≤ (kidsOf l (-1)).length) : ∀ i, i ≤ (kidsOf l (-1)).length →
    spR l wt f t i = if i ≤ f then l.take (posG l i) else l.take (posG l f) ++ wt ++ (l.take (posG l i)).drop (posG l t)
  | 0, _ => by rw [if_pos (by omega), posG_0]; simp [spR]
  | i + 1, hi => by
    have ih := spR_inv hw (wt := wt) h1 h2 i (by omega)
    rw [spR_s, ih]
    have hg := take_grp hw (i := i) (by omega)
    rcases Nat.lt_trichotomy i f with h | h | h
    · rw [if_neg (show ¬ ((i : Int) = f) by omega), if_pos (show i ≤ f by omega), if_pos (show i < (kidsOf l (-1)).length ∧ ((i : Int) < f ∨ (t : Int) ≤ i) from ⟨by omega, .inl (by omega)⟩), if_pos (show i + 1 ≤ f by omega), hg]
    · subst h
      rw [if_pos rfl, if_pos (Nat.le_refl i), if_neg (show ¬ (i + 1 ≤ i) by omega)]
      congr 1
      by_cases ht : t = i
      · subst ht
        rw [if_pos (show t < (kidsOf l (-1)).length ∧ ((t : Int) < t ∨ (t : Int) ≤ t) from ⟨by omega, .inr (by omega)⟩), hg, List.drop_append]
        have := posG_le (l := l) (i := t) (by omega)
        simp [Nat.min_eq_left this]
      · rw [if_neg (show ¬ (i < (kidsOf l (-1)).length ∧ ((i : Int) < i ∨ (t : Int) ≤ i)) by omega), List.drop_eq_nil_of_le (by
          have := posG_mono' (l := l) (i := i + 1) (j := t) (by omega) h2
          simp; omega)]
    · rw [if_neg (show ¬ ((i : Int) = f) by omega), if_neg (show ¬ (i ≤ f) by omega), if_neg (show ¬ (i + 1 ≤ f) by omega), List.append_assoc]
      congr 1
      have hpi := posG_le (l := l) (i := i) (by omega)
      by_cases ht : t ≤ i
      · rw [if_pos (show i < (kidsOf l (-1)).length ∧ ((i : Int) < f ∨ (t : Int) ≤ i) from ⟨by omega, .inr (by omega)⟩), hg, List.drop_append_of_le_length]
        have := posG_mono' (l := l) (i := t) (j := i) ht (by omega)
        simp [Nat.min_eq_left hpi]
        exact this
      · rw [if_neg (show ¬ (i < (kidsOf l (-1)).length ∧ ((i : Int) < f ∨ (t : Int) ≤ i)) by omega), List.append_nil]
        have a1 := posG_mono' (l := l) (i := i) (j := t) (by omega) h2
        have a2 := posG_mono' (l := l) (i := i + 1) (j := t) (by omega) h2
        rw [List.drop_eq_nil_of_le (by simp; omega), List.drop_eq_nil_of_le (by simp; omega)]
theorem spR_all {l wt : List Nd} (hw : WfN l) {f t : Nat} (h1 : f ≤ t) (h2 : t ≤ (kidsOf l (-1)).length) : spR l wt f t ((kidsOf l (-1)).length + 1) = spO l wt f t := by
  rw [spR_s, spR_inv hw h1 h2 _ (Nat.le_refl _)]
  unfold spO
  have e : ¬ ((kidsOf l (-1)).length < (kidsOf l (-1)).length ∧ (((kidsOf l (-1)).length : Int) < f ∨ (t : Int) ≤ (kidsOf l (-1)).length)) := fun h => by omega
  rw [if_neg e, List.append_nil, posG_end, List.take_length]
  by_cases hf : (kidsOf l (-1)).length ≤ f
  · obtain rfl : f = (kidsOf l (-1)).length := by omega
    obtain rfl : t = (kidsOf l (-1)).length := by omega
    rw [if_pos rfl, if_pos (Nat.le_refl _), posG_end]
    simp
  · rw [if_neg (by omega), if_neg hf]
end Go.Proofs.Ytddbnggficlcfaa

/- WALK: slices.Grow of nothing, slices.Concat of rows of nodes. -/
namespace Go.Proofs.Ytddbnggficlcfaa
open Go.RowKit
set_option maxRecDepth 100000 in
set_option maxHeartbeats 1000000 in
theorem growN_any (n : Nat) (hn : n ≤ 10000000) (w : World) :
    Calls Try.prog 97 #[.slice none 0 0, .int .i64 n] w fun e w' => ∃ v, e = .returned v ∧ w'.ownsRow w.heap.size 78 8 v 0 [] ∧ Below w.heap.size w w' := by
  by_cases h0 : n = 0
  · subst h0
    go_enter Try.func97, Try.ntmps97
    go_wp2_with fail
    go_ret
    exact ⟨_, rfl, World.ownsRow_nil _ _ _ _, Below.refl _ _⟩
  · obtain ⟨i0, hi, hz0, hzz, hz2⟩ := info_parts Try.infoNode
    have hold : (Builtin.firstCells i0.size 0 (.slice none 0 0)).run Try.prog w.drew = .ok #[] w.drew := run_firstCells_none w.drew i0.size 0 0 0
    obtain ⟨z, hz⟩ : ∃ z : Value, z = .agg #[.int .i64 0, .int .i64 0, .int .i64 0, .int .i64 0, .bool false, .int .i64 0, .int .i64 0, .int .i64 0] := ⟨_, rfl⟩
    have hzc : z.cells.size = 8 := by rw [hz]; rfl
    rw [← hz] at hz0
    have hrz : ∀ ty, (Builtin.append_ #[25, 3] ty #[.slice none 0 0, .int .i64 (n : Int)]).run Try.prog w =
        .ok (.slice (some ⟨w.heap.size, 0, none⟩) n (grownCap w n 0 78)) (w.drew.alloc (.cells (#[] ++ Builtin.zeroCells z.cells n ++ Builtin.zeroCells z.cells (grownCap w n 0 78 - n)) 78)) := fun ty => by
      have h := Lib.run_append_grow_zeros w 25 3 ty 78 i0 z .i64 .i64 Try.underlying25 Try.underlying3 hi hz0 none 0 0 [] hold n (by omega) (by omega) (by omega) (by omega) (by rw [hz2]; omega)
        (by rw [Nat.zero_add]; exact growslice_fits (by omega) (by rw [hz2]; omega))
      rw [Nat.zero_add] at h
      exact h
    have hGn : n ≤ grownCap w n 0 78 := grownCap_ge w _ _ _
    have hG63 := grownCap_le_maxLen w n 0 78 (by unfold maxLen; omega)
    obtain ⟨G, hG⟩ : ∃ G, G = grownCap w n 0 78 := ⟨_, rfl⟩
    rw [← hG] at hrz hGn hG63
    obtain ⟨cs, hcs⟩ : ∃ cs, cs = #[] ++ Builtin.zeroCells z.cells n ++ Builtin.zeroCells z.cells (G - n) := ⟨_, rfl⟩
    rw [← hcs] at hrz
    have hsz : cs.size = G * 8 := by
      rw [hcs]
      simp [size_zeroCells, hzc]
      omega
    have HS := hid hsz; have HG := hid hG63
    have q1 : (0 : Int) < (n : Int) := by omega
    clear hold hG hcs hsz hG63 hz0 hi hzz hz2 hzc hz
    unfold maxLen at HG
    have hg2 : G ≤ 9223372036854775807 := HG.out
    go_enter Try.func97, Try.ntmps97
    go_wp2_with (at_builtin; refine Lib.wpList_append_run _ rfl _ _ _ _ rfl _ _ rfl rfl _ _ (hrz _) ?_)
    all_goals (go_ret; exact ⟨_, rfl, ⟨by simp, .inr ⟨w.heap.size, G, cs, rfl, Nat.le_refl _, heap_alloc_new _ _, by omega, HG.out, by rw [HS.out], by simp⟩⟩, ((Below.refl _ _).alloc (Nat.le_refl _) _).drew⟩)
/-- A row of slices of nodes: the nodes, the address, the capacity. -/
abbrev Row3 := List Nd × Option Addr × Nat
def flt (X : List Row3) (k : Nat) : List Nd := ((X.take k).map Prod.fst).flatten
theorem flt_s {X : List Row3} {k : Nat} (h : k < X.length) : flt X (k + 1) = flt X k ++ X[k].1 := by
  unfold flt
  rw [List.take_add_one, List.getElem?_eq_getElem h, Option.toList_some, List.map_append, List.flatten_append]
  simp
theorem flt_le {X : List Row3} (n : Nat) : ∀ k, (flt X k).length ≤ (flt X (k + n)).length := by
  induction n with
  | zero => intro k; exact Nat.le_refl _
  | succ n ih =>
    intro k
    refine Nat.le_trans (ih k) ?_
    by_cases h : k + n < X.length
    · rw [← Nat.add_assoc, flt_s h, List.length_append]; omega
    · unfold flt
      rw [← Nat.add_assoc, List.take_of_length_le (by omega), List.take_of_length_le (by omega)]
      exact Nat.le_refl _
set_option maxRecDepth 100000 in
set_option maxHeartbeats 4000000 in
theorem concatN_any (X : List Row3) (g : Nat) (hM : X.length ≤ 1000) (hl : (flt X X.length).length ≤ 4000000) (w : World) (hg : g < w.heap.size)
    (hc : ∀ i (h : i < X.length), w.cell? ⟨g, i, none⟩ = some (.slice X[i].2.1 X[i].1.length X[i].2.2)) (hr : ∀ i (h : i < X.length), Nds w w.heap.size X[i].2.1 X[i].1) :
    Calls Try.prog 72 #[.slice (some ⟨g, 0, none⟩) X.length X.length] w fun e w' => ∃ v, e = .returned v ∧ w'.ownsRow w.heap.size 78 8 v (flt X X.length).length (flatN (flt X X.length)) ∧ Below w.heap.size w w' := by
  obtain ⟨M, hMM⟩ : ∃ M, M = X.length := ⟨_, rfl⟩
  have hle := fun k (h : k ≤ X.length) => (show (flt X k).length ≤ (flt X X.length).length from by have := flt_le (X := X) (X.length - k) k; rwa [show k + (X.length - k) = X.length by omega] at this)
  rw [← hMM] at hM hl hle ⊢
  have HM := hid hMM; have HC := hid hc; have HR := hid hr; have HLE := hid hle
  clear hMM hc hr hle
  go_enter Try.func72, Try.ntmps72
  go_wp2_with fail
  go_loopw [3, 11] (fun sv kv wr => ∃ (k s : Nat), k ≤ M ∧ kv = .int .i64 k ∧ sv = .int .i64 s ∧ Hid (s = (flt X k).length) ∧ w = wr) (fun _ kv _ => M - (intOf kv).toNat)
  case atStart => exact ⟨0, 0, by omega, rfl, rfl, hid (by simp [flt]), rfl⟩
  case round =>
    obtain ⟨k, s, hk, rfl, rfl, hs, rfl⟩ := hrel
    by_cases hkm : k < M
    · have hkl : k < X.length := by rw [← HM.out]; exact hkm
      have p0 := HC.out k hkl
      have hst := congrArg List.length (flt_s hkl)
      have hle := HLE.out (k + 1) (by omega)
      rw [List.length_append, ← hs.out] at hst
      rw [hst] at hle
      generalize X[k] = x at p0 hst hle
      obtain ⟨L0, A0, c0⟩ := x
      simp only [] at p0 hst hle
      obtain ⟨n0, hn0⟩ : ∃ n0, n0 = L0.length := ⟨_, rfl⟩
      rw [← hn0] at p0 hst hle
      have HST := hid hst.symm
      have hle2 : s + n0 ≤ 4000000 := Nat.le_trans hle hl
      have g0 : (k : Int) < (M : Int) := by omega
      have q1 : (0 : Int) ≤ (s : Int) + (n0 : Int) := by omega
      have q2 : IntKind.i64.wrap ((s : Int) + (n0 : Int)) = (s : Int) + (n0 : Int) := IntWalk.i64_in _ (by omega)
      clear hst hle hn0 hs
      go_wp2_with fail
      go_roundw
      case rel => exact ⟨k + 1, s + n0, by omega, by go_num, by go_num, HST, by first | exact rfl | trivial⟩
      case measure => simp [intOf]; omega
    · obtain rfl : M = k := by omega
      have hs2 : s ≤ 4000000 := by rw [hs.out]; exact hl
      have HG := hid (growN_any s (by omega) w)
      have g0 : decide (M < M) = false := by simp
      clear hs
      go_wp2_with (first | (go_at_call 97; refine HG.out.mono ?_; rintro e w4 ⟨v4, rfl, ho4, hb4⟩; have HO := hid ho4; have HB := hid hb4; clear ho4 hb4 HG))
      clear g0
      go_loopw [6, 27] (fun vv kv wr => ∃ (k : Nat), k ≤ M ∧ kv = .int .i64 k ∧ Hid (wr.ownsRow w.heap.size 78 8 vv (flt X k).length (flatN (flt X k))) ∧ Hid (Below w.heap.size w wr)) (fun _ kv _ => M - (intOf kv).toNat)
      case atStart => exact ⟨0, by omega, rfl, by simpa [flt, flatN] using HO, HB⟩
      case round =>
        obtain ⟨k, hk, rfl, hO, hB⟩ := hrel
        by_cases hkm : k < M
        · have hkl : k < X.length := by rw [← HM.out]; exact hkm
          have p0 := (hB.out.cell (p := ⟨g, k, none⟩) hg).trans (HC.out k hkl)
          have hr := (HR.out k hkl).below hB.out
          have hst := flt_s hkl
          have hle := HLE.out (k + 1) (by omega)
          rw [hst, List.length_append] at hle
          generalize X[k] = x at p0 hst hle hr
          obtain ⟨L0, A0, c0⟩ := x
          simp only [] at p0 hst hle hr
          have hle2 : (flt X k).length + L0.length ≤ 4000000 := Nat.le_trans hle hl
          have hO2 := hO.out
          generalize flt X k = F at hO2 hst hle2
          have hst2 : (flt X (k + 1)).length = F.length + L0.length := by rw [hst, List.length_append]
          have hst3 : flatN (flt X (k + 1)) = flatN F ++ flatN L0 := by rw [hst, flatN_app]
          obtain ⟨n0, hn0⟩ : ∃ n0, n0 = L0.length := ⟨_, rfl⟩
          obtain ⟨nF, hnF⟩ : ∃ nF, nF = F.length := ⟨_, rfl⟩
          unfold Nds at hr
          rw [← hn0] at p0 hr hle2 hst2
          rw [← hnF] at hO2 hle2 hst2
          clear hO
          obtain ⟨A5, c5, rfl⟩ := own_slice hO2
          have HST2 := hid hst2; have HST3 := hid hst3; have HO2 := hid hO2; have HR2 := hid hr
          have hsz := hB.out.size
          have g0 : (k : Int) < (M : Int) := by omega
          clear hst hle hn0 hnF hst2 hst3 hO2 hr
          go_wp2_with (first | (at_builtin; refine app_rdS rfl (.tmp 31) (.tmp 32) Try.underlying25 Try.infoNode rfl (by decide) (by decide) rfl w.heap.size _ nF (flatN F) rfl HO2.out A0 n0 c0 w.heap.size (flatN L0) rfl HR2.out (fun u hu => flatN_one hu) (by omega) hsz ?_; intro v6 w6 ho6 hg6; have HO6 := hid ho6; have HB6 := hid (below_app hB.out HO2.out hg6 (Nat.le_refl _) hsz); clear ho6 hg6))
          go_roundw
          case rel => exact ⟨k + 1, by omega, by go_num, by rw [HST2.out, HST3.out]; exact HO6, HB6⟩
          case measure => simp [intOf]; omega
        · obtain rfl : M = k := by omega
          have g0 : decide (M < M) = false := by simp
          have HO2 := hid hO.out
          clear hO
          go_wp2_with fail
          go_ret
          exact ⟨_, rfl, HO2.out, hB.out⟩
end Go.Proofs.Ytddbnggficlcfaa
