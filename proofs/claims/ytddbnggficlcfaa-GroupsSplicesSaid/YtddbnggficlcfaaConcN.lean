/- WALK: slices.Grow of nothing, slices.Concat of rows of nodes. -/
import Derived.Test.YtddbnggficlcfaaTextL
import Derived.Test.YtddbnggficlcfaaConc
namespace Go.Proofs.Ytddbnggficlcfaa
open Go.RowKit
set_option maxRecDepth 100000 in
set_option maxHeartbeats 1000000 in
theorem growN_any (n : Nat) (hn : n ≤ 10000000) (w : World) :
    Calls Try.prog 97 #[.slice none 0 0, .int .i64 n] w fun e w' => ∃ v, e = .returned v ∧ w'.ownsRow w.heap.size 78 8 v 0 [] ∧ Below w.heap.size w w' := by
  by_cases h0 : n = 0
  · subst h0
    go_enter Try.func97, Try.ntmps97
    go_wp2_with fail
    go_ret
    exact ⟨_, rfl, World.ownsRow_nil _ _ _ _, Below.refl _ _⟩
  · obtain ⟨i0, hi, hz0, hzz, hz2⟩ := info_parts Try.infoNode
    have hold : (Builtin.firstCells i0.size 0 (.slice none 0 0)).run Try.prog w.drew = .ok #[] w.drew := run_firstCells_none w.drew i0.size 0 0 0
    obtain ⟨z, hz⟩ : ∃ z : Value, z = .agg #[.int .i64 0, .int .i64 0, .int .i64 0, .int .i64 0, .bool false, .int .i64 0, .int .i64 0, .int .i64 0] := ⟨_, rfl⟩
    have hzc : z.cells.size = 8 := by rw [hz]; rfl
    rw [← hz] at hz0
    have hrz : ∀ ty, (Builtin.append_ #[25, 3] ty #[.slice none 0 0, .int .i64 (n : Int)]).run Try.prog w =
        .ok (.slice (some ⟨w.heap.size, 0, none⟩) n (grownCap w n 0 78)) (w.drew.alloc (.cells (#[] ++ Builtin.zeroCells z.cells n ++ Builtin.zeroCells z.cells (grownCap w n 0 78 - n)) 78)) := fun ty => by
      have h := Lib.run_append_grow_zeros w 25 3 ty 78 i0 z .i64 .i64 Try.underlying25 Try.underlying3 hi hz0 none 0 0 [] hold n (by omega) (by omega) (by omega) (by omega) (by rw [hz2]; omega)
        (by rw [Nat.zero_add]; exact growslice_fits (by omega) (by rw [hz2]; omega))
      rw [Nat.zero_add] at h
      exact h
    have hGn : n ≤ grownCap w n 0 78 := grownCap_ge w _ _ _
    have hG63 := grownCap_le_maxLen w n 0 78 (by unfold maxLen; omega)
    obtain ⟨G, hG⟩ : ∃ G, G = grownCap w n 0 78 := ⟨_, rfl⟩
    rw [← hG] at hrz hGn hG63
    obtain ⟨cs, hcs⟩ : ∃ cs, cs = #[] ++ Builtin.zeroCells z.cells n ++ Builtin.zeroCells z.cells (G - n) := ⟨_, rfl⟩
    rw [← hcs] at hrz
    have hsz : cs.size = G * 8 := by
      rw [hcs]
      simp [size_zeroCells, hzc]
      omega
    have HS := hid hsz; have HG := hid hG63
    have q1 : (0 : Int) < (n : Int) := by omega
    clear hold hG hcs hsz hG63 hz0 hi hzz hz2 hzc hz
    unfold maxLen at HG
    have hg2 : G ≤ 9223372036854775807 := HG.out
    go_enter Try.func97, Try.ntmps97
    go_wp2_with (at_builtin; refine Lib.wpList_append_run _ rfl _ _ _ _ rfl _ _ rfl rfl _ _ (hrz _) ?_)
    all_goals (go_ret; exact ⟨_, rfl, ⟨by simp, .inr ⟨w.heap.size, G, cs, rfl, Nat.le_refl _, heap_alloc_new _ _, by omega, HG.out, by rw [HS.out], by simp⟩⟩, ((Below.refl _ _).alloc (Nat.le_refl _) _).drew⟩)
/-- A row of slices of nodes: the nodes, the address, the capacity. -/
abbrev Row3 := List Nd × Option Addr × Nat
def flt (X : List Row3) (k : Nat) : List Nd := ((X.take k).map Prod.fst).flatten
theorem flt_s {X : List Row3} {k : Nat} (h : k < X.length) : flt X (k + 1) = flt X k ++ X[k].1 := by
  unfold flt
  rw [List.take_add_one, List.getElem?_eq_getElem h, Option.toList_some, List.map_append, List.flatten_append]
  simp
theorem flt_le {X : List Row3} (n : Nat) : ∀ k, (flt X k).length ≤ (flt X (k + n)).length := by
  induction n with
  | zero => intro k; exact Nat.le_refl _
  | succ n ih =>
    intro k
    refine Nat.le_trans (ih k) ?_
    by_cases h : k + n < X.length
    · rw [← Nat.add_assoc, flt_s h, List.length_append]; omega
    · unfold flt
      rw [← Nat.add_assoc, List.take_of_length_le (by omega), List.take_of_length_le (by omega)]
      exact Nat.le_refl _
set_option maxRecDepth 100000 in
set_option maxHeartbeats 4000000 in
theorem concatN_any (X : List Row3) (g : Nat) (hM : X.length ≤ 1000) (hl : (flt X X.length).length ≤ 4000000) (w : World) (hg : g < w.heap.size)
    (hc : ∀ i (h : i < X.length), w.cell? ⟨g, i, none⟩ = some (.slice X[i].2.1 X[i].1.length X[i].2.2)) (hr : ∀ i (h : i < X.length), Nds w w.heap.size X[i].2.1 X[i].1) :
    Calls Try.prog 72 #[.slice (some ⟨g, 0, none⟩) X.length X.length] w fun e w' => ∃ v, e = .returned v ∧ w'.ownsRow w.heap.size 78 8 v (flt X X.length).length (flatN (flt X X.length)) ∧ Below w.heap.size w w' := by
  obtain ⟨M, hMM⟩ : ∃ M, M = X.length := ⟨_, rfl⟩
  have hle := fun k (h : k ≤ X.length) => (show (flt X k).length ≤ (flt X X.length).length from by have := flt_le (X := X) (X.length - k) k; rwa [show k + (X.length - k) = X.length by omega] at this)
  rw [← hMM] at hM hl hle ⊢
  have HM := hid hMM; have HC := hid hc; have HR := hid hr; have HLE := hid hle
  clear hMM hc hr hle
  go_enter Try.func72, Try.ntmps72
  go_wp2_with fail
  go_loopw [3, 11] (fun sv kv wr => ∃ (k s : Nat), k ≤ M ∧ kv = .int .i64 k ∧ sv = .int .i64 s ∧ Hid (s = (flt X k).length) ∧ w = wr) (fun _ kv _ => M - (intOf kv).toNat)
  case atStart => exact ⟨0, 0, by omega, rfl, rfl, hid (by simp [flt]), rfl⟩
  case round =>
    obtain ⟨k, s, hk, rfl, rfl, hs, rfl⟩ := hrel
    by_cases hkm : k < M
    · have hkl : k < X.length := by rw [← HM.out]; exact hkm
      have p0 := HC.out k hkl
      have hst := congrArg List.length (flt_s hkl)
      have hle := HLE.out (k + 1) (by omega)
      rw [List.length_append, ← hs.out] at hst
      rw [hst] at hle
      generalize X[k] = x at p0 hst hle
      obtain ⟨L0, A0, c0⟩ := x
      simp only [] at p0 hst hle
      obtain ⟨n0, hn0⟩ : ∃ n0, n0 = L0.length := ⟨_, rfl⟩
      rw [← hn0] at p0 hst hle
      have HST := hid hst.symm
      have hle2 : s + n0 ≤ 4000000 := Nat.le_trans hle hl
      have g0 : (k : Int) < (M : Int) := by omega
      have q1 : (0 : Int) ≤ (s : Int) + (n0 : Int) := by omega
      have q2 : IntKind.i64.wrap ((s : Int) + (n0 : Int)) = (s : Int) + (n0 : Int) := IntWalk.i64_in _ (by omega)
      clear hst hle hn0 hs
      go_wp2_with fail
      go_roundw
      case rel => exact ⟨k + 1, s + n0, by omega, by go_num, by go_num, HST, by first | exact rfl | trivial⟩
      case measure => simp [intOf]; omega
    · obtain rfl : M = k := by omega
      have hs2 : s ≤ 4000000 := by rw [hs.out]; exact hl
      have HG := hid (growN_any s (by omega) w)
      have g0 : decide (M < M) = false := by simp
      clear hs
      go_wp2_with (first | (go_at_call 97; refine HG.out.mono ?_; rintro e w4 ⟨v4, rfl, ho4, hb4⟩; have HO := hid ho4; have HB := hid hb4; clear ho4 hb4 HG))
      clear g0
      go_loopw [6, 27] (fun vv kv wr => ∃ (k : Nat), k ≤ M ∧ kv = .int .i64 k ∧ Hid (wr.ownsRow w.heap.size 78 8 vv (flt X k).length (flatN (flt X k))) ∧ Hid (Below w.heap.size w wr)) (fun _ kv _ => M - (intOf kv).toNat)
      case atStart => exact ⟨0, by omega, rfl, by simpa [flt, flatN] using HO, HB⟩
      case round =>
        obtain ⟨k, hk, rfl, hO, hB⟩ := hrel
        by_cases hkm : k < M
        · have hkl : k < X.length := by rw [← HM.out]; exact hkm
          have p0 := (hB.out.cell (p := ⟨g, k, none⟩) hg).trans (HC.out k hkl)
          have hr := (HR.out k hkl).below hB.out
          have hst := flt_s hkl
          have hle := HLE.out (k + 1) (by omega)
          rw [hst, List.length_append] at hle
          generalize X[k] = x at p0 hst hle hr
          obtain ⟨L0, A0, c0⟩ := x
          simp only [] at p0 hst hle hr
          have hle2 : (flt X k).length + L0.length ≤ 4000000 := Nat.le_trans hle hl
          have hO2 := hO.out
          generalize flt X k = F at hO2 hst hle2
          have hst2 : (flt X (k + 1)).length = F.length + L0.length := by rw [hst, List.length_append]
          have hst3 : flatN (flt X (k + 1)) = flatN F ++ flatN L0 := by rw [hst, flatN_app]
          obtain ⟨n0, hn0⟩ : ∃ n0, n0 = L0.length := ⟨_, rfl⟩
          obtain ⟨nF, hnF⟩ : ∃ nF, nF = F.length := ⟨_, rfl⟩
          unfold Nds at hr
          rw [← hn0] at p0 hr hle2 hst2
          rw [← hnF] at hO2 hle2 hst2
          clear hO
          obtain ⟨A5, c5, rfl⟩ := own_slice hO2
          have HST2 := hid hst2; have HST3 := hid hst3; have HO2 := hid hO2; have HR2 := hid hr
          have hsz := hB.out.size
          have g0 : (k : Int) < (M : Int) := by omega
          clear hst hle hn0 hnF hst2 hst3 hO2 hr
          go_wp2_with (first | (at_builtin; refine app_rdS rfl (.tmp 31) (.tmp 32) Try.underlying25 Try.infoNode rfl (by decide) (by decide) rfl w.heap.size _ nF (flatN F) rfl HO2.out A0 n0 c0 w.heap.size (flatN L0) rfl HR2.out (fun u hu => flatN_one hu) (by omega) hsz ?_; intro v6 w6 ho6 hg6; have HO6 := hid ho6; have HB6 := hid (below_app hB.out HO2.out hg6 (Nat.le_refl _) hsz); clear ho6 hg6))
          go_roundw
          case rel => exact ⟨k + 1, by omega, by go_num, by rw [HST2.out, HST3.out]; exact HO6, HB6⟩
          case measure => simp [intOf]; omega
        · obtain rfl : M = k := by omega
          have g0 : decide (M < M) = false := by simp
          have HO2 := hid hO.out
          clear hO
          go_wp2_with fail
          go_ret
          exact ⟨_, rfl, HO2.out, hB.out⟩
end Go.Proofs.Ytddbnggficlcfaa
