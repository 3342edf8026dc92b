/- WALK: the inner functions of the stable sort: swapRange and rotate. -/
import Derived.Test.YtoljnbbhoeloeaaSort
import Derived.Test.YtoljnbbhoeloeaaMergeL
import Derived.Deep.LoopGhost
import Derived.Sort.WalkB2
import Derived.Sort.WalkB12
namespace Go.Proofs.Ytoljnbbhoeloeaa
open Go.RowKit Go.Shelf Go.Lib Go.Sort
theorem cells3 {w : World} {blk off : Nat} {d : Array Vb} (h : HoldsK encV 3 w blk off d) (i : Nat) (hi : i < d.size) :
    w.cell? ⟨blk, off + i * 3, none⟩ = some (.int .i64 d[i]!.1.1) ∧ w.cell? ⟨blk, off + i * 3 + 1, none⟩ = some (.int .i64 d[i]!.1.2.1) ∧ w.cell? ⟨blk, off + i * 3 + 2, none⟩ = some (.slice d[i]!.1.2.2.1 d[i]!.1.2.2.2.1 d[i]!.1.2.2.2.2.1) ∧
    w.frozen? ⟨blk, off + i * 3, none⟩ = false ∧ w.frozen? ⟨blk, off + i * 3 + 1, none⟩ = false ∧ w.frozen? ⟨blk, off + i * 3 + 2, none⟩ = false := by
  have hl : (flatK encV 3 d).size = d.size * 3 := size_flatK _ _ _
  have key : ∀ t, t < 3 → w.cell? ⟨blk, off + (i * 3 + t), none⟩ = some ((encV d[i]!)[t]!) ∧ w.frozen? ⟨blk, off + (i * 3 + t), none⟩ = false := fun t ht => by
    obtain ⟨h1, h2⟩ := h (i * 3 + t) (by rw [hl]; omega)
    refine ⟨?_, h2⟩
    rw [h1]
    have e1 : (i * 3 + t) / 3 = i := by omega
    have e2 : (i * 3 + t) % 3 = t := by omega
    have e3 : i * 3 + t < d.size * 3 := by omega
    rw [getElem!_pos (flatK encV 3 d) (i * 3 + t) (by rw [hl]; exact e3)]
    simp [flatK, e1, e2]
  exact ⟨(key 0 (by omega)).1, (key 1 (by omega)).1, (key 2 (by omega)).1, (key 0 (by omega)).2, (key 1 (by omega)).2, (key 2 (by omega)).2⟩
theorem cells3g {w0 W : World} {blk off : Nat} {d0 dk : Array Vb} (S : SWK encV 3 w0 blk off dk W) (R : RowK encV 3 w0 blk off d0) (hs : dk.size = d0.size) (i : Nat) (hi : i < dk.size) :
    (∀ n os, (grow (W.drewN n) os).cell? ⟨blk, off + i * 3, none⟩ = some (.int .i64 dk[i]!.1.1)) ∧ (∀ n os, (grow (W.drewN n) os).cell? ⟨blk, off + i * 3 + 1, none⟩ = some (.int .i64 dk[i]!.1.2.1)) ∧ (∀ n os, (grow (W.drewN n) os).cell? ⟨blk, off + i * 3 + 2, none⟩ = some (.slice dk[i]!.1.2.2.1 dk[i]!.1.2.2.2.1 dk[i]!.1.2.2.2.2.1)) :=
  ⟨fun n os => (cells3 ((S.grown n os).holds R.hblk R.hH hs) i hi).1, fun n os => (cells3 ((S.grown n os).holds R.hblk R.hH hs) i hi).2.1, fun n os => (cells3 ((S.grown n os).holds R.hblk R.hH hs) i hi).2.2.1⟩
theorem swapped3 {w0 W : World} {blk off : Nat} {d0 dk : Array Vb} (S : SWK encV 3 w0 blk off dk W) (R : RowK encV 3 w0 blk off d0) (i j : Nat) (hi : i < dk.size) (hj : j < dk.size) :
    SWK encV 3 w0 blk off (swp dk i j) ((((((W.setCell ⟨blk, off + i * 3, none⟩ (.int .i64 dk[j]!.1.1)).setCell ⟨blk, off + i * 3 + 1, none⟩ (.int .i64 dk[j]!.1.2.1)).setCell ⟨blk, off + i * 3 + 2, none⟩ (.slice dk[j]!.1.2.2.1 dk[j]!.1.2.2.2.1 dk[j]!.1.2.2.2.2.1)).setCell ⟨blk, off + j * 3, none⟩ (.int .i64 dk[i]!.1.1)).setCell ⟨blk, off + j * 3 + 1, none⟩ (.int .i64 dk[i]!.1.2.1)).setCell ⟨blk, off + j * 3 + 2, none⟩ (.slice dk[i]!.1.2.2.1 dk[i]!.1.2.2.2.1 dk[i]!.1.2.2.2.2.1)).drew := (S.swap R.hk R.hblk i j hi hj).drew
set_option maxHeartbeats 4000000 in
set_option maxRecDepth 1000000 in
theorem swapRange_any (blk off cap a b n : Nat) (d0 d : Array Vb) (w0 w : World) (R : RowK encV 3 w0 blk off d0) (hs : d0.size = d.size) (S : SWK encV 3 w0 blk off d w) (hab : a + n ≤ b) (hb : b + n ≤ d.size) (hsz : d.size < 4611686018427387904) (f : Value) :
    Calls Try.prog 94 #[.slice (some ⟨blk, off, none⟩) d.size cap, .int .i64 a, .int .i64 b, .int .i64 n, f] w fun e w' => e = .returned (.tuple #[]) ∧ ∃ d', Exch a b n d d' ∧ SWK encV 3 w0 blk off d' w' := by
  have S0 : Aside (SWK encV 3 w0 blk off d w) := S
  have mixed : Try.prog.follows .mixedOrders = true := by kernel_rfl
  clear S
  go_enter Try.func94, Try.ntmps94
  go_wp2_with fail
  go_loopw [10] (fun s wr => ∃ (i : Nat) (dk : Array Vb), s = .int .i64 i ∧ i ≤ n ∧ dk.size = d.size ∧ Aside (SWK encV 3 w0 blk off dk wr) ∧ Hid (Exch a b i d dk)) (fun s _ => n - (intOf s).toNat)
  case atStart => exact ⟨0, d, rfl, by omega, rfl, S0, Exch.start a b d⟩
  case round =>
    clear S0
    obtain ⟨i, dk, rfl, hi, hds, S1, HE⟩ := hrel
    by_cases hlt : i < n
    · have S2x := HE.out.step hlt hab hb
      have HE2 : Hid (Exch a b (i + 1) d (swp dk (a + i) (b + i))) := S2x
      clear S2x
      go_wp2_with fail
      have ea1 : ((a : Int) + (i : Int)).toNat = a + i := by omega
      have pa1 : (0 : Int) ≤ (a : Int) + (i : Int) := by omega
      have ba1 : (a : Int) + (i : Int) < (d.size : Int) := by omega
      have ra1 : IntKind.i64.wrap ((a : Int) + (i : Int)) = (a : Int) + (i : Int) := by rw [IntKind.wrap_i64]; omega
      have ec1 : ((b : Int) + (i : Int)).toNat = b + i := by omega
      have pc1 : (0 : Int) ≤ (b : Int) + (i : Int) := by omega
      have bc1 : (b : Int) + (i : Int) < (d.size : Int) := by omega
      have rc1 : IntKind.i64.wrap ((b : Int) + (i : Int)) = (b : Int) + (i : Int) := by rw [IntKind.wrap_i64]; omega
      have S2x := swapped3 S1.out R (a + i) (b + i) (by omega) (by omega)
      obtain ⟨a11, a12, a13, a14, a15, a16⟩ := cells3 (S1.out.holds R.hblk R.hH (by omega)) (a + i) (by omega)
      obtain ⟨c11, c12, c13, c14, c15, c16⟩ := cells3 (S1.out.holds R.hblk R.hH (by omega)) (b + i) (by omega)
      have z1 : blk < wr.heap.size := S1.out.lt R.hblk
      generalize dk[a + i]! = x1 at S2x a11 a12 a13
      generalize dk[b + i]! = y1 at S2x c11 c12 c13
      have S2 : Aside _ := S2x
      clear S1 S2x
      go_wp2_with fail
      go_big_region_o
      clear a11 a12 a13 a14 a15 a16 c11 c12 c13 c14 c15 c16
      generalize World.drew (World.setCell (World.setCell (World.setCell (World.setCell (World.setCell (World.setCell wr ⟨blk, off + (a + i) * 3, none⟩ (.int .i64 y1.1.1)) ⟨blk, off + (a + i) * 3 + 1, none⟩ (.int .i64 y1.1.2.1)) ⟨blk, off + (a + i) * 3 + 2, none⟩ (.slice y1.1.2.2.1 y1.1.2.2.2.1 y1.1.2.2.2.2.1)) ⟨blk, off + (b + i) * 3, none⟩ (.int .i64 x1.1.1)) ⟨blk, off + (b + i) * 3 + 1, none⟩ (.int .i64 x1.1.2.1)) ⟨blk, off + (b + i) * 3 + 2, none⟩ (.slice x1.1.2.2.1 x1.1.2.2.2.1 x1.1.2.2.2.2.1)) = w2 at S2 ⊢
      go_wp2_with fail
      go_roundw
      case rel => exact ⟨i + 1, swp dk (a + i) (b + i), by go_num, by omega, by rw [size_swp]; exact hds, S2, HE2.out⟩
      case measure => simp [intOf]; omega
    · obtain rfl : i = n := by omega
      go_wp2_with fail
      go_end0
      exact ⟨rfl, dk, HE.out, S1.out⟩
set_option maxHeartbeats 4000000 in
set_option maxRecDepth 1000000 in
theorem rotate_any (blk off cap a m b : Nat) (d0 d : Array Vb) (w0 w : World) (R : RowK encV 3 w0 blk off d0) (hs : d0.size = d.size) (S : SWK encV 3 w0 blk off d w) (ham : a < m) (hmb : m < b) (hb : b ≤ d.size) (hsz : d.size < 4611686018427387904) (f : Value) :
    Calls Try.prog 93 #[.slice (some ⟨blk, off, none⟩) d.size cap, .int .i64 a, .int .i64 m, .int .i64 b, f] w fun e w' => e = .returned (.tuple #[]) ∧ ∃ d', Rot a m b d d' ∧ SWK encV 3 w0 blk off d' w' := by
  have S0 : Aside (SWK encV 3 w0 blk off d w) := S
  have mixed : Try.prog.follows .mixedOrders = true := by kernel_rfl
  clear S
  have c1 : IntKind.i64.wrap ((m : Int) - a) = ((m - a : Nat) : Int) := by rw [IntKind.wrap_i64]; omega
  have c2 : IntKind.i64.wrap ((b : Int) - m) = ((b - m : Nat) : Int) := by rw [IntKind.wrap_i64]; omega
  have HSW : Hid (∀ (x y n : Nat) (dk : Array Vb) (W : World), dk.size = d.size → SWK encV 3 w0 blk off dk W → x + n ≤ y → y + n ≤ d.size → Calls Try.prog 94 #[.slice (some ⟨blk, off, none⟩) d.size cap, .int .i64 x, .int .i64 y, .int .i64 n, f] W fun e w' => e = .returned (.tuple #[]) ∧ ∃ d', Exch x y n dk d' ∧ SWK encV 3 w0 blk off d' w') :=
    fun x y n dk W h1 h2 h3 h4 => by have := swapRange_any blk off cap x y n d0 dk w0 W R (by omega) h2 h3 (by omega) (by omega) f; rwa [h1] at this
  go_enter Try.func93, Try.ntmps93
  go_wp2_with fail
  clear c1 c2
  go_loopw [10, 11] (fun s t wr => ∃ (i j : Nat) (dk : Array Vb), s = .int .i64 i ∧ t = .int .i64 j ∧ 0 < i ∧ 0 < j ∧ i ≤ m ∧ a + i ≤ m ∧ m + j ≤ b ∧ dk.size = d.size ∧ Aside (SWK encV 3 w0 blk off dk wr) ∧ Hid (Left a m b i j d dk)) (fun s t _ => (intOf s).toNat + (intOf t).toNat)
  case atStart => exact ⟨m - a, b - m, d, rfl, rfl, by omega, by omega, by omega, by omega, by omega, rfl, S0, Left.start (by omega) (by omega) d⟩
  case round =>
    clear S0
    obtain ⟨i, j, dk, rfl, rfl, hi, hj, him, hai, hjb, hds, S1, HL⟩ := hrel
    have c1 : IntKind.i64.wrap ((m : Int) - i) = ((m - i : Nat) : Int) := by rw [IntKind.wrap_i64]; omega
    by_cases hij : i = j
    · subst hij
      have hc := HSW.out (m - i) m i dk wr hds S1.out (by omega) (by omega)
      have HCx := hid hc
      clear hc
      go_wp2_with (go_at_call 94; refine HCx.out.mono ?_; rintro e w' ⟨rfl, d', hE, hS⟩)
      go_end0
      exact ⟨rfl, d', HL.out.done him hE, hS⟩
    · have hne : ((i : Int) == (j : Int)) = false := by simp; omega
      have hne2 : ((i : Int) != (j : Int)) = true := by simp; omega
      by_cases hlt : j < i
      · have c2 : IntKind.i64.wrap ((i : Int) - j) = ((i - j : Nat) : Int) := by rw [IntKind.wrap_i64]; omega
        have hc := HSW.out (m - i) m j dk wr hds S1.out (by omega) (by omega)
        have HCx := hid hc
        clear hc
        go_wp2_with (go_at_call 94; refine HCx.out.mono ?_; rintro e w' ⟨rfl, d', hE, hS⟩; have HE2 := hid hE; have HS2 : Aside _ := hS; clear hE hS)
        go_roundw
        case rel => exact ⟨i - j, j, d', rfl, rfl, by omega, hj, by omega, by omega, hjb, by rw [HE2.out.1]; exact hds, HS2, HL.out.more him hlt hj HE2.out⟩
        case measure => simp [intOf]; omega
      · have c2 : IntKind.i64.wrap ((j : Int) - i) = ((j - i : Nat) : Int) := by rw [IntKind.wrap_i64]; omega
        have c3 : IntKind.i64.wrap ((m : Int) + j - i) = ((m + j - i : Nat) : Int) := by rw [IntKind.wrap_i64]; omega
        have hc := HSW.out (m - i) (m + j - i) i dk wr hds S1.out (by omega) (by omega)
        have HCx := hid hc
        clear hc
        go_wp2_with (go_at_call 94; refine HCx.out.mono ?_; rintro e w' ⟨rfl, d', hE, hS⟩; have HE2 := hid hE; have HS2 : Aside _ := hS; clear hE hS)
        go_roundw
        case rel => exact ⟨i, j - i, d', rfl, rfl, hi, by omega, him, hai, by omega, by rw [HE2.out.1]; exact hds, HS2, HL.out.less him (by omega) hi HE2.out⟩
        case measure => simp [intOf]; omega
end Go.Proofs.Ytoljnbbhoeloeaa
