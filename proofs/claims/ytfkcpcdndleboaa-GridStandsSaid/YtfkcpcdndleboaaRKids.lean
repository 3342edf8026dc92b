/- ostraconref02.Kids, ostraconref02.parent. -/
import Derived.Test.YtfkcpcdndleboaaOwn2
namespace Go.Proofs.Ytfkcpcdndleboaa
open Go.RowKit
def DepOk (l : List Nd) : Prop := ∀ i, i < l.length → 0 ≤ dep l i ∧ dep l i ≤ 4
def kDep (l : List Nd) (node : Int) : Int := if 0 ≤ node then dep l node.toNat + 1 else 0
theorem rkids_from {l : List Nd} {node : Int} (h : -1 ≤ node) : rkids l node = rkFrom l (kDep l node) (node + 1).toNat := by
  unfold rkids kDep
  by_cases h0 : 0 ≤ node
  · rw [if_pos h0, if_pos h0]
    congr 1
    omega
  · rw [if_neg h0, if_neg h0]
    obtain rfl : node = -1 := by omega
    rfl
theorem rkR_len {l : List Nd} {d : Int} : ∀ f k, (rkR l d f k).length ≤ f
  | 0, _ => Nat.zero_le _
  | f + 1, k => by
    unfold rkR
    have := rkR_len (l := l) (d := d) f (k + 1)
    split
    · split
      · rw [List.length_cons]; omega
      · omega
    · exact Nat.zero_le _
theorem rkids_len {l : List Nd} {node : Int} : (rkids l node).length ≤ l.length := by
  unfold rkids rkFrom
  split
  · exact Nat.le_trans (rkR_len _ _) (Nat.sub_le _ _)
  · exact Nat.le_trans (rkR_len _ _) (Nat.sub_le _ _)
set_option maxRecDepth 100000 in
set_option maxHeartbeats 2000000 in
theorem refKids_any (l : List Nd) (node : Int) (h1 : -1 ≤ node) (h2 : node < l.length) (hd : DepOk l) (hl : l.length ≤ 1000000) (A : Option Addr) (c : Nat) (w : World) (r : Nds w w.heap.size A l) :
    Calls Try.prog 66 #[.agg #[.slice A l.length c], .int .i64 node] w fun e w' => ∃ v, e = .returned v ∧ w'.ownsRow w.heap.size 3 1 v (rkids l node).length (ints (nz (rkids l node))) ∧ Below w.heap.size w w' := by
  obtain ⟨w1, hw1⟩ : ∃ w1, w1 = w.alloc (.cells #[.slice A l.length c] 27) := ⟨_, rfl⟩
  have hb1 : Below w.heap.size w w1 := by rw [hw1]; exact (Below.refl _ _).alloc (Nat.le_refl _) _
  have hz1 : w1.heap.size = w.heap.size + 1 := by rw [hw1]; simp
  have c0 : w1.cell? ⟨w.heap.size, 0, none⟩ = some (.slice A l.length c) := by rw [hw1]; exact cell_here rfl rfl
  have r1 : Nds w1 w.heap.size A l := r.below hb1
  have hrk := rkids_from (l := l) h1
  have hrl := rkids_len (l := l) (node := node)
  obtain ⟨R, hR⟩ : ∃ R, R = rkids l node := ⟨_, rfl⟩
  obtain ⟨d, hdd⟩ : ∃ d, d = kDep l node := ⟨_, rfl⟩
  obtain ⟨n, hn⟩ : ∃ n, n = l.length := ⟨_, rfl⟩
  rw [← hR] at hrk hrl ⊢
  rw [← hdd] at hrk
  rw [← hn] at hl c0 h2 hw1 hrl ⊢
  have HW1 := hid hw1; have HB1 := hid hb1; have HR := hid r1; have HN := hid hn; have HZ1 := hid hz1; have HD := hid hd; have HRK := hid hrk; have HDD := hid hdd
  clear hw1 hb1 r r1 hn hz1 hd hrk hR hdd
  go_enter Try.func66, Try.ntmps66
  go_upto_if 9 with (fail)
  rw [← HW1.out]
  clear HW1
  have HC := hid fun (wr : World) (h : Below w1.heap.size w1 wr) => (h.cell (p := ⟨w.heap.size, 0, none⟩) (by have := HZ1.out; show w.heap.size < _; omega)).trans c0
  obtain ⟨B0, hB0⟩ : ∃ B0, B0 = w.heap.size := ⟨_, rfl⟩
  have HW : Hid (∀ wr, Below w1.heap.size w1 wr → Below w.heap.size w wr) := fun wr h => HB1.out.trans (h.mono (by have := HZ1.out; omega))
  have hzl : B0 < w1.heap.size := by have := HZ1.out; omega
  have HO : Hid (∀ (wr : World) (v : Value) (m : Nat) (xs : List Value), wr.ownsRow w1.heap.size 3 1 v m xs → wr.ownsRow w.heap.size 3 1 v m xs) := fun wr v m xs h => own_base h (by have := HZ1.out; omega)
  rw [← hB0] at c0 HC HR ⊢
  clear hB0 HB1 HZ1
  go_cut [6] (fun s wx => s = .int .i64 d ∧ w1 = wx)
  case first =>
    by_cases h0 : 0 ≤ node
    · obtain ⟨i, rfl⟩ : ∃ i : Nat, node = i := ⟨node.toNat, by omega⟩
      have hil : i < l.length := by rw [← HN.out]; omega
      obtain ⟨b, o, rfl, _, hc⟩ := HR.out.at (by omega)
      have p1 := (hc i hil).depth
      rw [← dep_at hil] at p1
      have hdi := HD.out i hil
      have hde : d = dep l i + 1 := by rw [HDD.out]; unfold kDep; rw [if_pos h0]; rfl
      generalize dep l i = di at p1 hdi hde
      have hdi1 := hdi.1; have hdi2 := hdi.2
      have g0 : decide ((0 : Int) ≤ (i : Int)) = true := decide_eq_true h0
      have HDE := hid hde
      clear hde hdi hc h0 h1 HDD HRK HD
      go_wp2_with fail
      go_meet
      exact ⟨by rw [HDE.out], rfl⟩
    · have g0 : decide ((0 : Int) ≤ node) = false := decide_eq_false h0
      have hde : d = 0 := by rw [HDD.out]; unfold kDep; rw [if_neg h0]
      have HDE := hid hde
      have g1 : node < 0 := by omega
      clear hde HDD HRK HD
      go_wp2_with fail
      all_goals first | (exfalso; omega) | (go_meet; exact ⟨by rw [HDE.out], rfl⟩)
  obtain ⟨rfl, rfl⟩ := hcut
  obtain ⟨k0, hk0⟩ : ∃ k0 : Nat, node + 1 = k0 := ⟨(node + 1).toNat, by omega⟩
  have hkn0 : k0 ≤ n := by omega
  have HK0 : Hid (R = rkFrom l d k0) := by rw [HRK.out, hk0]; exact hid rfl
  clear HRK HDD
  have HK := hid hk0
  have hk1 : -1 ≤ node := h1
  clear hk0
  go_wp2_with fail
  rw [show node + 1 = (k0 : Int) from HK.out]
  go_loopw [5, 7] (fun vv kv wr => ∃ (k : Nat) (pre : List Nat), k ≤ n ∧ kv = .int .i64 k ∧ Hid (pre ++ rkFrom l d k = R) ∧ Hid (wr.ownsRow w1.heap.size 3 1 vv pre.length (ints (nz pre))) ∧ Hid (Below w1.heap.size w1 wr)) (fun _ kv _ => n - (intOf kv).toNat)
  case atStart => exact ⟨k0, [], by omega, rfl, HK0.out.symm, World.ownsRow_nil _ _ _ _, Below.refl _ _⟩
  case round =>
    obtain ⟨k, pre, hk, rfl, hP, hO, hB⟩ := hrel
    have cc := HC.out wr hB.out
    obtain ⟨A5, c5, rfl⟩ := own_slice hO.out
    by_cases hkn : k < n
    · have hkl : k < l.length := by rw [← HN.out]; exact hkn
      obtain ⟨b, o, rfl, hb, hc⟩ := HR.out.at (by omega)
      have p1 := ((hc k hkl).below hB.out (by omega)).depth
      rw [← dep_at hkl] at p1
      have hst := fun h : ¬ d ≤ dep l k => rkFrom_stop (l := l) (d := d) (k := k) (fun h2 => h h2.2)
      have hsx := fun h : d ≤ dep l k => rkFrom_s hkl h
      generalize dep l k = dk at p1 hst hsx
      have g0 : (k : Int) < (n : Int) := by omega
      by_cases hdk : d ≤ dk
      · have hs := hsx hdk
        have g1 : decide (d ≤ dk) = true := decide_eq_true hdk
        by_cases heq : dk = d
        · rw [if_pos heq] at hs
          have g2 : (dk == d) = true := by simpa using heq
          have hP2 := hP.out
          rw [hs] at hP2
          have HP2 : Hid ((pre ++ [k]) ++ rkFrom l d (k + 1) = R) := by rw [List.append_assoc]; exact hP2
          have hpl : pre.length ≤ 1000000 := by have := congrArg List.length hP.out; rw [List.length_append] at this; omega
          have HE : Hid (ints (nz (pre ++ [k])) = ints (nz pre) ++ [.int .i64 (k : Int)]) := by unfold nz; rw [List.map_append, ints_append]; exact hid rfl
          subst heq
          clear hst hsx hs hc hP2 hP hdk
          go_wp2_with (first | (at_builtin; refine app_one rfl (.tmp 44) (.tmp 46) Try.underlying65 Try.infoInt rfl (by decide) rfl w1.heap.size _ _ _ rfl (hO.out.alloc _) ⟨wr.heap.size, 0, none⟩ (.int .i64 k) rfl (cell_new1 _ _ _) rfl (by omega) (by have := hB.out.size; simp; omega) ?_; intro v6 w6 ho6 hg6; have HO6 := hid ho6; have HB6 := hid (below_app (hB.out.alloc hB.out.size _) (hO.out.alloc _) hg6 (Nat.le_refl _) (by have := hB.out.size; simp; omega)); clear ho6 hg6))
          go_roundw
          case rel => exact ⟨k + 1, pre ++ [k], by omega, by go_num, HP2.out, by rw [HE.out, List.length_append]; exact HO6.out, HB6.out⟩
          case measure => simp [intOf]; omega
        · rw [if_neg heq] at hs
          have g2 : (dk == d) = false := by simpa using heq
          have hP2 := hP.out
          rw [hs] at hP2
          have HP2 := hid hP2
          clear hst hsx hs hc hP2 hP heq hdk
          go_wp2_with fail
          go_roundw
          case rel => exact ⟨k + 1, pre, by omega, by go_num, HP2.out, hO.out, hB.out⟩
          case measure => simp [intOf]; omega
      · have hs := hst hdk
        have g1 : decide (d ≤ dk) = false := decide_eq_false hdk
        have hP2 := hP.out
        rw [hs, List.append_nil] at hP2
        have HP2 := hid hP2
        clear hst hsx hs hc hP2 hP hdk
        go_wp2_with fail
        go_ret
        exact ⟨_, rfl, by rw [← HP2.out]; exact HO.out _ _ _ _ hO.out, HW.out _ hB.out⟩
    · obtain rfl : n = k := by omega
      have hs := rkFrom_stop (l := l) (d := d) (k := n) (by rw [← HN.out]; omega)
      have hP2 := hP.out
      rw [hs, List.append_nil] at hP2
      have HP2 := hid hP2
      clear hs hP2 hP
      have g0 : decide (n < n) = false := by simp
      go_wp2_with fail
      go_ret
      exact ⟨_, rfl, by rw [← HP2.out]; exact HO.out _ _ _ _ hO.out, HW.out _ hB.out⟩
end Go.Proofs.Ytfkcpcdndleboaa
