/- WALK: symMerge: a second part of one. -/
import Derived.Test.YtoljnbbhoeloeaaSwapW
namespace Go.Proofs.Ytoljnbbhoeloeaa
open Go.RowKit Go.Shelf Go.Lib Go.Sort
set_option maxHeartbeats 16000000 in
set_option maxRecDepth 1000000 in
theorem symMerge_b (blk off cap a m b : Nat) (d0 d : Array Vb) (w0 w : World) (R : RowK encV 3 w0 blk off d0) (hC : CmpLays Try.prog 50 #[] encV 3 cfV blk off d0.size w0) (hs : d0.size = d.size) (S : SWK encV 3 w0 blk off d w) (ham : a < m) (hmb : m < b) (hb : b ≤ d.size) (hsz : d.size < 4611686018427387904) (hL : Srt a m d) (hR : Srt m b d) (hA : ¬ m = a + 1) (hB : b = m + 1) :
    Calls Try.prog 92 #[.slice (some ⟨blk, off, none⟩) d.size cap, .int .i64 a, .int .i64 m, .int .i64 b, .func (.func 50) #[] #[]] w fun e w' => e = .returned (.tuple #[]) ∧ ∃ d', Merged a b d d' ∧ SWK encV 3 w0 blk off d' w' := by
  have HC : Aside _ := hC
  have S0 : Aside (SWK encV 3 w0 blk off d w) := S
  have mixed : Try.prog.follows .mixedOrders = true := by kernel_rfl
  have HL := hid hL; have HR := hid hR
  clear hC S hL hR
  have HBm := hid hB
  have c1 : IntKind.i64.wrap ((m : Int) - a) = ((m - a : Nat) : Int) := by rw [IntKind.wrap_i64]; omega
  have c1n : (((m - a : Nat) : Int) == 1) = false := by simp; omega
  have c2 : IntKind.i64.wrap ((b : Int) - m) = 1 := by rw [IntKind.wrap_i64]; omega
  clear hA hB
  go_enter Try.func92, Try.ntmps92
  go_wp2_with fail
  clear c1 c1n c2
  go_loopw [14, 15] (fun s t wr => ∃ (i j : Nat), s = .int .i64 i ∧ t = .int .i64 j ∧ a ≤ i ∧ i ≤ j ∧ j ≤ m ∧ Aside (SWK encV 3 w0 blk off d wr) ∧ Hid (∀ h, a ≤ h → h < i → kv d[h]! ≤ kv d[m]!) ∧ Hid (∀ h, j ≤ h → h < m → kv d[m]! < kv d[h]!)) (fun s t _ => (intOf t).toNat - (intOf s).toNat)
  case atStart => exact ⟨a, m, rfl, rfl, by omega, by omega, by omega, S0, fun h h1 h2 => by omega, fun h h1 h2 => by omega⟩
  case round =>
    clear S0
    obtain ⟨i, j, rfl, rfl, h1, h2, h3, S1, H1, H2⟩ := hrel
    by_cases hij : i < j
    · have hijz : (i : Int) < (j : Int) := by omega
      go_wp2_with fail
      obtain ⟨h, hh⟩ : ∃ h, h = (i + j) / 2 := ⟨_, rfl⟩
      have hz : (((i : Nat) : Int) + ((j : Nat) : Int)) / 2 = ((h : Nat) : Int) := by omega
      rw [hz]
      have hlo : i ≤ h := by omega
      have hhi : h < j := by omega
      have Hhq := hid hh
      clear hz hh
      by_cases hv : kv d[m]! < kv d[h]!
      · have hn : Hid (∀ h', h ≤ h' → h' < m → kv d[m]! < kv d[h']!) := fun h' g1 g2 => by have := srt_le HL.out (i := h) (j := h') (by omega) g1 g2; omega
        have ea4 : ((m : Int)).toNat = m := by omega
        have pa4 : (0 : Int) ≤ (m : Int) := by omega
        have ba4 : (m : Int) < (d.size : Int) := by omega
        have ra4 : IntKind.i64.wrap ((m : Int)) = (m : Int) := by rw [IntKind.wrap_i64]; omega
        have ec4 : ((h : Int)).toNat = h := by omega
        have pc4 : (0 : Int) ≤ (h : Int) := by omega
        have bc4 : (h : Int) < (d.size : Int) := by omega
        have rc4 : IntKind.i64.wrap ((h : Int)) = (h : Int) := by rw [IntKind.wrap_i64]; omega
        obtain ⟨x4, hx4⟩ : ∃ x, x = d[m]! := ⟨_, rfl⟩
        obtain ⟨y4, hy4⟩ : ∃ x, x = d[h]! := ⟨_, rfl⟩
        have l4a := cells3g S1.out R (by omega) (m) (by omega)
        have l4b := cells3g S1.out R (by omega) (h) (by omega)
        rw [← hx4] at l4a
        rw [← hy4] at l4b
        obtain ⟨la41, la42, la43⟩ := l4a
        obtain ⟨lb41, lb42, lb43⟩ := l4b
        have hc4 := S1.out.cmp HC.out (by omega) x4 y4
        have hc4' : ∀ n os, Calls Try.prog 50 #[.agg #[.int .i64 x4.1.1, .int .i64 x4.1.2.1, .slice x4.1.2.2.1 x4.1.2.2.2.1 x4.1.2.2.2.2.1], .agg #[.int .i64 y4.1.1, .int .i64 y4.1.2.1, .slice y4.1.2.2.1 y4.1.2.2.2.1 y4.1.2.2.2.2.1]] (grow (wr.drewN n) os) fun e w' => e = .returned (.int .i64 (cfV x4 y4)) ∧ ∃ q os', w' = grow ((grow (wr.drewN n) os).drewN q) os' := fun n os => hc4 n os
        have HC4 := hid hc4'
        have hv4 : cfV x4 y4 < 0 := by rw [hx4, hy4]; have := hv; unfold cfV; omega
        have hd4 : decide (cfV x4 y4 < 0) = true := decide_eq_true hv4
        clear hx4 hy4 hc4 hc4'
        go_wp2_with fail
        go_quiet_grown (first | (go_at_call 50; refine Calls.grown_of (HC4.out _ _)) | (go_at_fn 50; refine Calls.grown_of (HC4.out _ _)))
        have S2 : Aside (SWK encV 3 w0 blk off d (grow (wr.drewN nq) osq)) := S1.out.grown nq osq
        clear la41 la42 la43 lb41 lb42 lb43 HC4 S1
        generalize grow (wr.drewN nq) osq = w2 at S2 ⊢
        clear nq osq
        go_wp2_with fail
        go_roundw
        case rel => exact ⟨i, h, rfl, rfl, by omega, by omega, by omega, S2, H1, hn⟩
        case measure => simp [intOf]; omega
      · have hn : Hid (∀ h', a ≤ h' → h' < h + 1 → kv d[h']! ≤ kv d[m]!) := fun h' g1 g2 => by have := srt_le HL.out (i := h') (j := h) g1 (by omega) (by omega); omega
        have rh : IntKind.i64.wrap ((h : Int) + 1) = (h : Int) + 1 := by rw [IntKind.wrap_i64]; omega
        have ea5 : ((m : Int)).toNat = m := by omega
        have pa5 : (0 : Int) ≤ (m : Int) := by omega
        have ba5 : (m : Int) < (d.size : Int) := by omega
        have ra5 : IntKind.i64.wrap ((m : Int)) = (m : Int) := by rw [IntKind.wrap_i64]; omega
        have ec5 : ((h : Int)).toNat = h := by omega
        have pc5 : (0 : Int) ≤ (h : Int) := by omega
        have bc5 : (h : Int) < (d.size : Int) := by omega
        have rc5 : IntKind.i64.wrap ((h : Int)) = (h : Int) := by rw [IntKind.wrap_i64]; omega
        obtain ⟨x5, hx5⟩ : ∃ x, x = d[m]! := ⟨_, rfl⟩
        obtain ⟨y5, hy5⟩ : ∃ x, x = d[h]! := ⟨_, rfl⟩
        have l5a := cells3g S1.out R (by omega) (m) (by omega)
        have l5b := cells3g S1.out R (by omega) (h) (by omega)
        rw [← hx5] at l5a
        rw [← hy5] at l5b
        obtain ⟨la51, la52, la53⟩ := l5a
        obtain ⟨lb51, lb52, lb53⟩ := l5b
        have hc5 := S1.out.cmp HC.out (by omega) x5 y5
        have hc5' : ∀ n os, Calls Try.prog 50 #[.agg #[.int .i64 x5.1.1, .int .i64 x5.1.2.1, .slice x5.1.2.2.1 x5.1.2.2.2.1 x5.1.2.2.2.2.1], .agg #[.int .i64 y5.1.1, .int .i64 y5.1.2.1, .slice y5.1.2.2.1 y5.1.2.2.2.1 y5.1.2.2.2.2.1]] (grow (wr.drewN n) os) fun e w' => e = .returned (.int .i64 (cfV x5 y5)) ∧ ∃ q os', w' = grow ((grow (wr.drewN n) os).drewN q) os' := fun n os => hc5 n os
        have HC5 := hid hc5'
        have hv5 : ¬ cfV x5 y5 < 0 := by rw [hx5, hy5]; have := hv; unfold cfV; omega
        have hd5 : decide (cfV x5 y5 < 0) = false := decide_eq_false hv5
        clear hx5 hy5 hc5 hc5'
        go_wp2_with fail
        go_quiet_grown (first | (go_at_call 50; refine Calls.grown_of (HC5.out _ _)) | (go_at_fn 50; refine Calls.grown_of (HC5.out _ _)))
        have S2 : Aside (SWK encV 3 w0 blk off d (grow (wr.drewN nq) osq)) := S1.out.grown nq osq
        clear la51 la52 la53 lb51 lb52 lb53 HC5 S1
        generalize grow (wr.drewN nq) osq = w2 at S2 ⊢
        clear nq osq
        go_wp2_with fail
        go_roundw
        case rel => exact ⟨h + 1, j, by go_num, rfl, by omega, by omega, by omega, S2, hn, H2⟩
        case measure => simp [intOf]; omega
    · obtain rfl : i = j := by omega
      have hijz : ¬ (i : Int) < (i : Int) := by omega
      go_wp2_with fail
      go_loopw [17] (fun s wr => ∃ (k : Nat) (dk : Array Vb), s = .int .i64 k ∧ i ≤ k ∧ k ≤ m ∧ dk.size = d.size ∧ Aside (SWK encV 3 w0 blk off dk wr) ∧ Hid (Dn a b m k d dk)) (fun s _ => (intOf s).toNat - i)
      case atStart => exact ⟨m, d, rfl, by omega, by omega, rfl, S1, Dn.start a b m d⟩
      case round =>
        clear S1
        obtain ⟨k, dk, rfl, hak, hki, hds, S3, HU⟩ := hrel
        by_cases hk : i < k
        · obtain ⟨kp, rfl⟩ : ∃ kp, k = kp + 1 := ⟨k - 1, by omega⟩
          have hkz : (i : Int) < (kp : Int) + 1 := by omega
          have hU2 : Hid (Dn a b m kp d (swp dk (kp + 1) kp)) := HU.out.step (by omega) (by omega) hki hb (H2.out kp (by omega) (by omega))
          go_wp2_with fail
          have ea6 : ((kp : Int) + 1).toNat = kp + 1 := by omega
          have pa6 : (0 : Int) ≤ (kp : Int) + 1 := by omega
          have ba6 : (kp : Int) + 1 < (d.size : Int) := by omega
          have ra6 : IntKind.i64.wrap ((kp : Int) + 1) = (kp : Int) + 1 := by rw [IntKind.wrap_i64]; omega
          have ec6 : ((kp : Int)).toNat = kp := by omega
          have pc6 : (0 : Int) ≤ (kp : Int) := by omega
          have bc6 : (kp : Int) < (d.size : Int) := by omega
          have rc6 : IntKind.i64.wrap ((kp : Int)) = (kp : Int) := by rw [IntKind.wrap_i64]; omega
          have S4x := swapped3 S3.out R (kp + 1) (kp) (by omega) (by omega)
          obtain ⟨a61, a62, a63, a64, a65, a66⟩ := cells3 (S3.out.holds R.hblk R.hH (by omega)) (kp + 1) (by omega)
          obtain ⟨c61, c62, c63, c64, c65, c66⟩ := cells3 (S3.out.holds R.hblk R.hH (by omega)) (kp) (by omega)
          have z6 : blk < wr.heap.size := S3.out.lt R.hblk
          generalize dk[kp + 1]! = x6 at S4x a61 a62 a63
          generalize dk[kp]! = y6 at S4x c61 c62 c63
          have S4 : Aside _ := S4x
          clear S3 S4x
          go_wp2_with fail
          go_big_region_o
          clear a61 a62 a63 a64 a65 a66 c61 c62 c63 c64 c65 c66
          generalize World.drew (World.setCell (World.setCell (World.setCell (World.setCell (World.setCell (World.setCell wr ⟨blk, off + (kp + 1) * 3, none⟩ (.int .i64 y6.1.1)) ⟨blk, off + (kp + 1) * 3 + 1, none⟩ (.int .i64 y6.1.2.1)) ⟨blk, off + (kp + 1) * 3 + 2, none⟩ (.slice y6.1.2.2.1 y6.1.2.2.2.1 y6.1.2.2.2.2.1)) ⟨blk, off + (kp) * 3, none⟩ (.int .i64 x6.1.1)) ⟨blk, off + (kp) * 3 + 1, none⟩ (.int .i64 x6.1.2.1)) ⟨blk, off + (kp) * 3 + 2, none⟩ (.slice x6.1.2.2.1 x6.1.2.2.2.1 x6.1.2.2.2.2.1)) = w3 at S4 ⊢
          go_wp2_with fail
          go_roundw
          case rel => exact ⟨kp, swp dk (kp + 1) kp, by go_num, by omega, by omega, by rw [size_swp]; exact hds, S4, hU2⟩
          case measure => simp [intOf]; omega
        · obtain rfl : k = i := by omega
          have hkz : ¬ (k : Int) < (k : Int) := by omega
          go_wp2_with fail
          refine bodyPost_ret (v := .tuple #[]) (by simp [results, Try.results92, go_sem]) rfl ?_
          have hbm := HBm.out
          subst hbm
          exact ⟨rfl, dk, ⟨HU.out.rr, HU.out.sorted h1 h3 HL.out (fun p g1 g2 => Int.not_lt.2 (H1.out p g1 g2)) H2.out⟩, S3.out⟩
end Go.Proofs.Ytoljnbbhoeloeaa
