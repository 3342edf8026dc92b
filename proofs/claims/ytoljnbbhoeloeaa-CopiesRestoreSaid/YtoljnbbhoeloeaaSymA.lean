/- WALK: symMerge: a first part of one. -/
import Derived.Test.YtoljnbbhoeloeaaSwapW
namespace Go.Proofs.Ytoljnbbhoeloeaa
open Go.RowKit Go.Shelf Go.Lib Go.Sort
set_option maxHeartbeats 16000000 in
set_option maxRecDepth 1000000 in
theorem symMerge_a (blk off cap a m b : Nat) (d0 d : Array Vb) (w0 w : World) (R : RowK encV 3 w0 blk off d0) (hC : CmpLays Try.prog 50 #[] encV 3 cfV blk off d0.size w0) (hs : d0.size = d.size) (S : SWK encV 3 w0 blk off d w) (ham : a < m) (hmb : m < b) (hb : b ≤ d.size) (hsz : d.size < 4611686018427387904) (hL : Srt a m d) (hR : Srt m b d) (hA : m = a + 1) :
    Calls Try.prog 92 #[.slice (some ⟨blk, off, none⟩) d.size cap, .int .i64 a, .int .i64 m, .int .i64 b, .func (.func 50) #[] #[]] w fun e w' => e = .returned (.tuple #[]) ∧ ∃ d', Merged a b d d' ∧ SWK encV 3 w0 blk off d' w' := by
  have HC : Aside _ := hC
  have S0 : Aside (SWK encV 3 w0 blk off d w) := S
  have mixed : Try.prog.follows .mixedOrders = true := by kernel_rfl
  have HL := hid hL; have HR := hid hR
  clear hC S hL hR
  have HAm := hid hA
  have c1 : IntKind.i64.wrap ((m : Int) - a) = 1 := by rw [IntKind.wrap_i64]; omega
  clear hA
  go_enter Try.func92, Try.ntmps92
  go_wp2_with fail
  clear c1
  go_loopw [10, 11] (fun s t wr => ∃ (i j : Nat), s = .int .i64 i ∧ t = .int .i64 j ∧ m ≤ i ∧ i ≤ j ∧ j ≤ b ∧ Aside (SWK encV 3 w0 blk off d wr) ∧ Hid (∀ h, m ≤ h → h < i → kv d[h]! < kv d[a]!) ∧ Hid (∀ h, j ≤ h → h < b → kv d[a]! ≤ kv d[h]!)) (fun s t _ => (intOf t).toNat - (intOf s).toNat)
  case atStart => exact ⟨m, b, rfl, rfl, by omega, by omega, by omega, S0, fun h h1 h2 => by omega, fun h h1 h2 => by omega⟩
  case round =>
    clear S0
    obtain ⟨i, j, rfl, rfl, h1, h2, h3, S1, H1, H2⟩ := hrel
    by_cases hij : i < j
    · have hijz : (i : Int) < (j : Int) := by omega
      go_wp2_with fail
      obtain ⟨h, hh⟩ : ∃ h, h = (i + j) / 2 := ⟨_, rfl⟩
      have hz : (((i : Nat) : Int) + ((j : Nat) : Int)) / 2 = ((h : Nat) : Int) := by omega
      rw [hz]
      have hlo : i ≤ h := by omega
      have hhi : h < j := by omega
      have Hhq := hid hh
      clear hz hh
      by_cases hv : kv d[h]! < kv d[a]!
      · have hn : Hid (∀ h', m ≤ h' → h' < h + 1 → kv d[h']! < kv d[a]!) := fun h' g1 g2 => by have := srt_le HR.out (i := h') (j := h) g1 (by omega) (by omega); omega
        have rh : IntKind.i64.wrap ((h : Int) + 1) = (h : Int) + 1 := by rw [IntKind.wrap_i64]; omega
        have ea1 : ((h : Int)).toNat = h := by omega
        have pa1 : (0 : Int) ≤ (h : Int) := by omega
        have ba1 : (h : Int) < (d.size : Int) := by omega
        have ra1 : IntKind.i64.wrap ((h : Int)) = (h : Int) := by rw [IntKind.wrap_i64]; omega
        have ec1 : ((a : Int)).toNat = a := by omega
        have pc1 : (0 : Int) ≤ (a : Int) := by omega
        have bc1 : (a : Int) < (d.size : Int) := by omega
        have rc1 : IntKind.i64.wrap ((a : Int)) = (a : Int) := by rw [IntKind.wrap_i64]; omega
        obtain ⟨x1, hx1⟩ : ∃ x, x = d[h]! := ⟨_, rfl⟩
        obtain ⟨y1, hy1⟩ : ∃ x, x = d[a]! := ⟨_, rfl⟩
        have l1a := cells3g S1.out R (by omega) (h) (by omega)
        have l1b := cells3g S1.out R (by omega) (a) (by omega)
        rw [← hx1] at l1a
        rw [← hy1] at l1b
        obtain ⟨la11, la12, la13⟩ := l1a
        obtain ⟨lb11, lb12, lb13⟩ := l1b
        have hc1 := S1.out.cmp HC.out (by omega) x1 y1
        have hc1' : ∀ n os, Calls Try.prog 50 #[.agg #[.int .i64 x1.1.1, .int .i64 x1.1.2.1, .slice x1.1.2.2.1 x1.1.2.2.2.1 x1.1.2.2.2.2.1], .agg #[.int .i64 y1.1.1, .int .i64 y1.1.2.1, .slice y1.1.2.2.1 y1.1.2.2.2.1 y1.1.2.2.2.2.1]] (grow (wr.drewN n) os) fun e w' => e = .returned (.int .i64 (cfV x1 y1)) ∧ ∃ q os', w' = grow ((grow (wr.drewN n) os).drewN q) os' := fun n os => hc1 n os
        have HC1 := hid hc1'
        have hv1 : cfV x1 y1 < 0 := by rw [hx1, hy1]; have := hv; unfold cfV; omega
        have hd1 : decide (cfV x1 y1 < 0) = true := decide_eq_true hv1
        clear hx1 hy1 hc1 hc1'
        go_wp2_with fail
        go_quiet_grown (first | (go_at_call 50; refine Calls.grown_of (HC1.out _ _)) | (go_at_fn 50; refine Calls.grown_of (HC1.out _ _)))
        have S2 : Aside (SWK encV 3 w0 blk off d (grow (wr.drewN nq) osq)) := S1.out.grown nq osq
        clear la11 la12 la13 lb11 lb12 lb13 HC1 S1
        generalize grow (wr.drewN nq) osq = w2 at S2 ⊢
        clear nq osq
        go_wp2_with fail
        go_roundw
        case rel => exact ⟨h + 1, j, by go_num, rfl, by omega, by omega, by omega, S2, hn, H2⟩
        case measure => simp [intOf]; omega
      · have hn : Hid (∀ h', h ≤ h' → h' < b → kv d[a]! ≤ kv d[h']!) := fun h' g1 g2 => by have := srt_le HR.out (i := h) (j := h') (by omega) g1 g2; omega
        have ea2 : ((h : Int)).toNat = h := by omega
        have pa2 : (0 : Int) ≤ (h : Int) := by omega
        have ba2 : (h : Int) < (d.size : Int) := by omega
        have ra2 : IntKind.i64.wrap ((h : Int)) = (h : Int) := by rw [IntKind.wrap_i64]; omega
        have ec2 : ((a : Int)).toNat = a := by omega
        have pc2 : (0 : Int) ≤ (a : Int) := by omega
        have bc2 : (a : Int) < (d.size : Int) := by omega
        have rc2 : IntKind.i64.wrap ((a : Int)) = (a : Int) := by rw [IntKind.wrap_i64]; omega
        obtain ⟨x2, hx2⟩ : ∃ x, x = d[h]! := ⟨_, rfl⟩
        obtain ⟨y2, hy2⟩ : ∃ x, x = d[a]! := ⟨_, rfl⟩
        have l2a := cells3g S1.out R (by omega) (h) (by omega)
        have l2b := cells3g S1.out R (by omega) (a) (by omega)
        rw [← hx2] at l2a
        rw [← hy2] at l2b
        obtain ⟨la21, la22, la23⟩ := l2a
        obtain ⟨lb21, lb22, lb23⟩ := l2b
        have hc2 := S1.out.cmp HC.out (by omega) x2 y2
        have hc2' : ∀ n os, Calls Try.prog 50 #[.agg #[.int .i64 x2.1.1, .int .i64 x2.1.2.1, .slice x2.1.2.2.1 x2.1.2.2.2.1 x2.1.2.2.2.2.1], .agg #[.int .i64 y2.1.1, .int .i64 y2.1.2.1, .slice y2.1.2.2.1 y2.1.2.2.2.1 y2.1.2.2.2.2.1]] (grow (wr.drewN n) os) fun e w' => e = .returned (.int .i64 (cfV x2 y2)) ∧ ∃ q os', w' = grow ((grow (wr.drewN n) os).drewN q) os' := fun n os => hc2 n os
        have HC2 := hid hc2'
        have hv2 : ¬ cfV x2 y2 < 0 := by rw [hx2, hy2]; have := hv; unfold cfV; omega
        have hd2 : decide (cfV x2 y2 < 0) = false := decide_eq_false hv2
        clear hx2 hy2 hc2 hc2'
        go_wp2_with fail
        go_quiet_grown (first | (go_at_call 50; refine Calls.grown_of (HC2.out _ _)) | (go_at_fn 50; refine Calls.grown_of (HC2.out _ _)))
        have S2 : Aside (SWK encV 3 w0 blk off d (grow (wr.drewN nq) osq)) := S1.out.grown nq osq
        clear la21 la22 la23 lb21 lb22 lb23 HC2 S1
        generalize grow (wr.drewN nq) osq = w2 at S2 ⊢
        clear nq osq
        go_wp2_with fail
        go_roundw
        case rel => exact ⟨i, h, rfl, rfl, by omega, by omega, by omega, S2, H1, hn⟩
        case measure => simp [intOf]; omega
    · obtain rfl : i = j := by omega
      have hijz : ¬ (i : Int) < (i : Int) := by omega
      have c2 : IntKind.i64.wrap ((i : Int) - 1) = ((i - 1 : Nat) : Int) := by have := HAm.out; rw [IntKind.wrap_i64]; omega
      go_wp2_with fail
      clear c2
      go_loopw [13] (fun s wr => ∃ (k : Nat) (dk : Array Vb), s = .int .i64 k ∧ a ≤ k ∧ k ≤ i - 1 ∧ dk.size = d.size ∧ Aside (SWK encV 3 w0 blk off dk wr) ∧ Hid (Up a b k d dk)) (fun s _ => (i - 1) - (intOf s).toNat)
      case atStart => exact ⟨a, d, rfl, by omega, by omega, rfl, S1, Up.start a b d⟩
      case round =>
        clear S1
        obtain ⟨k, dk, rfl, hak, hki, hds, S3, HU⟩ := hrel
        have c2 : IntKind.i64.wrap ((i : Int) - 1) = ((i - 1 : Nat) : Int) := by have := HAm.out; rw [IntKind.wrap_i64]; omega
        by_cases hk : k < i - 1
        · have hkz : (k : Int) < ((i - 1 : Nat) : Int) := by omega
          have hU2 : Hid (Up a b (k + 1) d (swp dk k (k + 1))) := HU.out.step hak (by omega) hb (H1.out (k + 1) (by have := HAm.out; omega) (by omega))
          go_wp2_with fail
          have ea3 : ((k : Int)).toNat = k := by omega
          have pa3 : (0 : Int) ≤ (k : Int) := by omega
          have ba3 : (k : Int) < (d.size : Int) := by omega
          have ra3 : IntKind.i64.wrap ((k : Int)) = (k : Int) := by rw [IntKind.wrap_i64]; omega
          have ec3 : ((k : Int) + 1).toNat = k + 1 := by omega
          have pc3 : (0 : Int) ≤ (k : Int) + 1 := by omega
          have bc3 : (k : Int) + 1 < (d.size : Int) := by omega
          have rc3 : IntKind.i64.wrap ((k : Int) + 1) = (k : Int) + 1 := by rw [IntKind.wrap_i64]; omega
          have S4x := swapped3 S3.out R (k) (k + 1) (by omega) (by omega)
          obtain ⟨a31, a32, a33, a34, a35, a36⟩ := cells3 (S3.out.holds R.hblk R.hH (by omega)) (k) (by omega)
          obtain ⟨c31, c32, c33, c34, c35, c36⟩ := cells3 (S3.out.holds R.hblk R.hH (by omega)) (k + 1) (by omega)
          have z3 : blk < wr.heap.size := S3.out.lt R.hblk
          generalize dk[k]! = x3 at S4x a31 a32 a33
          generalize dk[k + 1]! = y3 at S4x c31 c32 c33
          have S4 : Aside _ := S4x
          clear S3 S4x
          go_wp2_with fail
          go_big_region_o
          clear a31 a32 a33 a34 a35 a36 c31 c32 c33 c34 c35 c36
          generalize World.drew (World.setCell (World.setCell (World.setCell (World.setCell (World.setCell (World.setCell wr ⟨blk, off + (k) * 3, none⟩ (.int .i64 y3.1.1)) ⟨blk, off + (k) * 3 + 1, none⟩ (.int .i64 y3.1.2.1)) ⟨blk, off + (k) * 3 + 2, none⟩ (.slice y3.1.2.2.1 y3.1.2.2.2.1 y3.1.2.2.2.2.1)) ⟨blk, off + (k + 1) * 3, none⟩ (.int .i64 x3.1.1)) ⟨blk, off + (k + 1) * 3 + 1, none⟩ (.int .i64 x3.1.2.1)) ⟨blk, off + (k + 1) * 3 + 2, none⟩ (.slice x3.1.2.2.1 x3.1.2.2.2.1 x3.1.2.2.2.2.1)) = w3 at S4 ⊢
          go_wp2_with fail
          go_roundw
          case rel => exact ⟨k + 1, swp dk k (k + 1), by go_num, by omega, by omega, by rw [size_swp]; exact hds, S4, hU2⟩
          case measure => simp [intOf]; omega
        · obtain rfl : k = i - 1 := by omega
          have hkz : ¬ ((i - 1 : Nat) : Int) < ((i - 1 : Nat) : Int) := by omega
          go_wp2_with fail
          refine bodyPost_ret (v := .tuple #[]) (by simp [results, Try.results92, go_sem]) rfl ?_
          exact ⟨rfl, dk, ⟨HU.out.rr, HU.out.sorted (by have := HAm.out; omega) h3 (by rw [← HAm.out]; exact HR.out) (fun p g1 g2 => H1.out p (by have := HAm.out; omega) g2) (fun p g1 g2 => Int.not_lt.2 (H2.out p g1 g2))⟩, S3.out⟩
end Go.Proofs.Ytoljnbbhoeloeaa
