/- WALK: the kids of a node: groups.kids, its iterator, slices.Collect of it. -/
import Derived.Test.YtddbnggficlcfaaNode
import Derived.Test.YtddbnggficlcfaaRange
import Derived.Shelf.Abstract
namespace Go.Proofs.Ytddbnggficlcfaa
open Go.RowKit Go.Shelf
attribute [local go_sem] Oper.semAt_some
def kidsR (l : List Nd) (to : Nat) : Nat → Nat → List Nat
  | 0, _ => []
  | f + 1, k => if k < to then k :: kidsR l to f (endOf l k) else []
def kidsFrom (l : List Nd) (to k : Nat) : List Nat := kidsR l to (to - k) k
theorem kidsR_stop {l : List Nd} {to k : Nat} (h : ¬ k < to) : ∀ f, kidsR l to f k = []
  | 0 => rfl
  | _ + 1 => if_neg h
theorem kidsR_fuel {l : List Nd} {to : Nat} : ∀ (f g k : Nat), to ≤ f + k → to ≤ g + k → kidsR l to f k = kidsR l to g k
  | 0, g, k, h, _ => by rw [kidsR_stop (by omega), kidsR_stop (by omega)]
  | f + 1, 0, k, _, h => by rw [kidsR_stop (by omega), kidsR_stop (by omega)]
  | f + 1, g + 1, k, h1, h2 => by
    by_cases h : k < to
    · rw [kidsR, kidsR, if_pos h, if_pos h]
      have := endOf_gt l k
      rw [kidsR_fuel f g (endOf l k) (by omega) (by omega)]
    · rw [kidsR_stop h, kidsR_stop h]
theorem kidsFrom_s {l : List Nd} {to k : Nat} (h : k < to) : kidsFrom l to k = k :: kidsFrom l to (endOf l k) := by
  unfold kidsFrom
  have := endOf_gt l k
  rw [kidsR_fuel (to - k) (to - k + 1) k (by omega) (by omega), kidsR, if_pos h, kidsR_fuel (to - k) (to - endOf l k) (endOf l k) (by omega) (by omega)]
theorem kidsFrom_stop {l : List Nd} {to k : Nat} (h : ¬ k < to) : kidsFrom l to k = [] := kidsR_stop h _
def kidsFr (node : Int) : Nat := if 0 ≤ node then node.toNat + 1 else 0
def kidsTo (l : List Nd) (node : Int) : Nat := if 0 ≤ node then endOf l node.toNat else l.length
/-- The kids of a node, or, for a number below 0, the groups. -/
def kidsOf (l : List Nd) (node : Int) : List Nat := kidsFrom l (kidsTo l node) (kidsFr node)
/-- What the iterator finds: the list and the node, each in its box. -/
structure KK (l : List Nd) (A : Option Addr) (c : Nat) (node : Int) (n0 b1 b2 : Nat) (W : World) : Prop where
  l_ : W.heap[b1]? = some (.cells #[.slice A l.length c] 25 (0, 0))
  n_ : W.heap[b2]? = some (.cells #[.int .i64 node] 3 (0, 0))
  nds : Nds W n0 A l
set_option maxRecDepth 100000 in
set_option maxHeartbeats 2000000 in
theorem kids_seq (l : List Nd) (node : Int) (hnode : node < l.length) (hnl : -9223372036854775808 ≤ node) (hl : l.length ≤ 1000000) (A : Option Addr) (c n0 b1 b2 n : Nat) :
    SeqD Fence.wide n Try.prog 91 #[.pointer (some ⟨b1, 0, none⟩), .pointer (some ⟨b2, 0, none⟩)] (fun k : Nat => #[.int .i64 (k : Int)]) (KK l A c node n0 b1 b2) (kidsOf l node) := by
  intro lid J Jx W hJd hJxd hJK hY hj
  have hK := hJK [] W hj
  have p1 := cell_of_one hK.l_
  have p2 := cell_of_one hK.n_
  have hfw : ∀ f, Fence.wide.fn f := fun _ => trivial
  have hfd : Fence.wide.depth = none := rfl
  have hdd : ∀ k : Nat, (Fence.wide.depth.isSome = true → 1 ≤ k) := fun k h => by cases h
  have HEND := hid fun (i : Nat) (hi : i < l.length) (W1 : World) (h : Nds W1 n0 A l) => end_any l i hi hl A c W1 n0 h
  obtain ⟨N, hN⟩ : ∃ N, N = l.length := ⟨_, rfl⟩
  rw [← hN] at hnode hl p1 HEND
  have HN := hid hN; have HK := hid hK; have HJD := hid hJd; have HJXD := hid hJxd; have HJK := hid hJK; have HY := hid hY; have HJ := hid hj
  clear hN hK hJd hJxd hJK hY hj
  refine callsIn_of_wp Try.func91 rfl trivial ?_ rfl
  simp only [Try.ntmps91, List.size_toArray, List.length_cons, List.length_nil, Nat.reduceAdd, Nat.reduceSub, Array.replicate_succ, Array.replicate_zero, List.push_toArray, List.append_toArray, List.nil_append, List.cons_append]
  by_cases h0 : 0 ≤ node
  · obtain ⟨i, rfl⟩ : ∃ i : Nat, node = i := ⟨node.toNat, by omega⟩
    have hi : i < N := by omega
    have hfr : kidsOf l (i : Int) = kidsFrom l (endOf l i) (i + 1) := by unfold kidsOf kidsTo kidsFr; rw [if_pos h0, if_pos h0]; rfl
    have hd : decide ((0 : Int) ≤ (i : Int)) = true := decide_eq_true h0
    have hle := endOf_le (l := l) (i := i) (by rw [← HN.out]; exact hi)
    rw [← HN.out] at hle
    obtain ⟨to, hto⟩ : ∃ to, to = endOf l i := ⟨_, rfl⟩
    rw [← hto] at hle hfr
    have HFR := hid hfr
    have HEI := hid fun q => HEND.out i hi (W.drewN q) (HK.out.nds.below (below_drewN (Below.refl _ _) _))
    rw [← hto] at HEI
    clear hfr hto h0
    have q0 : IntKind.i64.wrap ((i : Int) + 1) = (i : Int) + 1 := IntWalk.i64_in _ (by omega)
    gi_wp2
    gi_quiet (fail)
    gi_wp2
    gi_quiet ((gi_at_call 92; go_must (exact callsIn_wide.2 ((HEI.out _).mono fun e w' h => ⟨h.1, by obtain ⟨_, n5, hw⟩ := h; exact ⟨_, by rw [hw, World.drewN_drewN, Nat.add_assoc]⟩⟩))))
    try rw [q0]
    clear q0
    gi_wp2
    gi_loopw [6] (fun kv wr => ∃ (k : Nat) (pre : List Nat), kv = .int .i64 k ∧ Hid (pre ++ kidsFrom l to k = kidsOf l (i : Int)) ∧ Hid (J pre wr)) (fun kv _ => to - (intOf kv).toNat)
    case atStart => exact ⟨i + 1, [], by go_num, HFR.out.symm, HJD.out _ _ _ (HJD.out _ _ _ HJ.out)⟩
    case round =>
      obtain ⟨k, pre, rfl, hP, hJ⟩ := hrel
      by_cases hk : k < to
      · have hKK := HJK.out pre wr hJ.out
        have r1 := cell_of_one hKK.l_
        have r2 := cell_of_one hKK.n_
        rw [← HN.out] at r1
        have hks := kidsFrom_s (l := l) hk
        have hkP := hP.out
        rw [hks] at hkP
        have hpx : pre ++ [k] <+: kidsOf l (i : Int) := ⟨kidsFrom l to (endOf l k), by rw [← hkP, List.append_assoc]; rfl⟩
        have hgt := endOf_gt l k
        obtain ⟨fn, tmps, assign, body, hy, hR⟩ := HY.out pre k wr hJ.out hpx
        obtain ⟨k2, hk2⟩ : ∃ k2, k2 = endOf l k := ⟨_, rfl⟩
        rw [← hk2] at hgt hkP
        have HNX : Hid ((pre ++ [k]) ++ kidsFrom l to k2 = kidsOf l (i : Int)) := by rw [List.append_assoc]; exact hkP
        have HEK := hid fun (W1 : World) h => HEND.out k (by omega) W1 h
        rw [← hk2] at HEK
        have HPX := hid hpx
        clear hKK hks hkP hpx hk2 hP
        gi_wp2_with (first | ((first | refine ⟨hdd _, ?_⟩ | refine ⟨trivial, hdd _, ?_⟩ | skip); refine hR.mono ?_; clear hR; rintro e w5 (⟨rfl, hj5⟩ | ⟨rfl, hx5⟩); focus (have hKK := HJK.out _ _ hj5; have r3 := cell_of_one hKK.l_; rw [← HN.out] at r3; have HE5 := hid (HEK.out w5 hKK.nds); have HJ5 := hid fun q => HJD.out _ _ q hj5; clear hKK hj5 r1 r2 hy)) | ((first | refine ⟨trivial, hdd _, ?_⟩ | refine ⟨hdd _, ?_⟩ | skip); gi_at_call 92; refine (callsIn_wide.2 HE5.out).mono ?_; rintro e w6 ⟨rfl, q6, rfl⟩))
        · go_roundw
          case rel => exact ⟨k2, pre ++ [k], by go_num, HNX.out, HJ5.out _⟩
          case measure => simp [intOf]; omega
        · exact bodyPost_ret (v := .tuple #[]) (by simp [results, Try.results91, go_sem]) rfl ⟨⟨_, rfl⟩, .inr ⟨_, HPX.out, hx5⟩⟩
      · have hst := kidsFrom_stop (l := l) hk
        have hkP := hP.out
        rw [hst, List.append_nil] at hkP
        have HX := hid hkP
        clear hst hkP hP
        gi_wp2
        go_end0
        exact ⟨⟨_, rfl⟩, .inl (by rw [← HX.out]; exact hJ.out)⟩
  · have hd : decide ((0 : Int) ≤ node) = false := decide_eq_false h0
    have hfr : kidsOf l node = kidsFrom l N 0 := by unfold kidsOf kidsTo kidsFr; rw [if_neg h0, if_neg h0, HN.out]
    have HFR := hid hfr
    clear hfr h0
    gi_wp2
    gi_quiet (fail)
    gi_wp2
    gi_loopw [6] (fun kv wr => ∃ (k : Nat) (pre : List Nat), kv = .int .i64 k ∧ Hid (pre ++ kidsFrom l N k = kidsOf l node) ∧ Hid (J pre wr)) (fun kv _ => N - (intOf kv).toNat)
    case atStart => exact ⟨0, [], by go_num, HFR.out.symm, HJD.out _ _ _ HJ.out⟩
    case round =>
      obtain ⟨k, pre, rfl, hP, hJ⟩ := hrel
      by_cases hk : k < N
      · have hKK := HJK.out pre wr hJ.out
        have r1 := cell_of_one hKK.l_
        have r2 := cell_of_one hKK.n_
        rw [← HN.out] at r1
        have hks := kidsFrom_s (l := l) hk
        have hkP := hP.out
        rw [hks] at hkP
        have hpx : pre ++ [k] <+: kidsOf l node := ⟨kidsFrom l N (endOf l k), by rw [← hkP, List.append_assoc]; rfl⟩
        have hgt := endOf_gt l k
        obtain ⟨fn, tmps, assign, body, hy, hR⟩ := HY.out pre k wr hJ.out hpx
        obtain ⟨k2, hk2⟩ : ∃ k2, k2 = endOf l k := ⟨_, rfl⟩
        rw [← hk2] at hgt hkP
        have HNX : Hid ((pre ++ [k]) ++ kidsFrom l N k2 = kidsOf l node) := by rw [List.append_assoc]; exact hkP
        have HEK := hid fun (W1 : World) h => HEND.out k (by omega) W1 h
        rw [← hk2] at HEK
        have HPX := hid hpx
        clear hKK hks hkP hpx hk2 hP
        gi_wp2_with (first | ((first | refine ⟨hdd _, ?_⟩ | refine ⟨trivial, hdd _, ?_⟩ | skip); refine hR.mono ?_; clear hR; rintro e w5 (⟨rfl, hj5⟩ | ⟨rfl, hx5⟩); focus (have hKK := HJK.out _ _ hj5; have r3 := cell_of_one hKK.l_; rw [← HN.out] at r3; have HE5 := hid (HEK.out w5 hKK.nds); have HJ5 := hid fun q => HJD.out _ _ q hj5; clear hKK hj5 r1 r2 hy)) | ((first | refine ⟨trivial, hdd _, ?_⟩ | refine ⟨hdd _, ?_⟩ | skip); gi_at_call 92; refine (callsIn_wide.2 HE5.out).mono ?_; rintro e w6 ⟨rfl, q6, rfl⟩))
        · go_roundw
          case rel => exact ⟨k2, pre ++ [k], by go_num, HNX.out, HJ5.out _⟩
          case measure => simp [intOf]; omega
        · exact bodyPost_ret (v := .tuple #[]) (by simp [results, Try.results91, go_sem]) rfl ⟨⟨_, rfl⟩, .inr ⟨_, HPX.out, hx5⟩⟩
      · have hst := kidsFrom_stop (l := l) hk
        have hkP := hP.out
        rw [hst, List.append_nil] at hkP
        have HX := hid hkP
        clear hst hkP hP
        gi_wp2
        go_end0
        exact ⟨⟨_, rfl⟩, .inl (by rw [← HX.out]; exact hJ.out)⟩
end Go.Proofs.Ytddbnggficlcfaa
