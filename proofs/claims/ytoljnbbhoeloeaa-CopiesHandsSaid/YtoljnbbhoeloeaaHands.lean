/- WALK: the law CopiesHands. -/
import Derived.Test.YtoljnbbhoeloeaaRefHands
import Derived.Test.YtoljnbbhoeloeaaWorksW
namespace Go.Proofs.Ytoljnbbhoeloeaa
open Go.RowKit
theorem hout_len {ls : Cps} {n d e : Int} {r : List Nat} (h : Hout ls n d e r) : r.length ≤ 8 := by
  cases h with
  | many _ => simp
  | one _ _ => simp
  | pair _ _ _ _ _ _ _ => simp
  | ok h1 _ _ => rw [hands_len]; exact h1
set_option maxRecDepth 100000 in
set_option maxHeartbeats 1000000 in
theorem hands_law (ls : List TLn) (n d : Int) (A : Option Addr) (c : Nat) (w : World) (r : Tls w w.heap.size A ls) :
    Calls Try.prog 12 #[.slice A ls.length c, .agg #[.int .i64 n, .int .i64 d]] w fun e w' => e = .returned (.bool true) ∧ Below w.heap.size w w' := by
  have H1 := hid fun W (r1 : Tls W W.heap.size A ls) => hands_any ls n d A c W r1
  have H2 := hid fun W (r1 : Tls W W.heap.size A ls) => ref_hands_any ls n d A c W r1
  have R := hid r
  clear r
  go_enter Try.func12, Try.ntmps12
  have fin : Hid (∀ W W', Below w.heap.size w W → Below W.heap.size W W' → Below w.heap.size w W') := fun W W' h h' => h.trans (h'.mono h.size)
  have hbx := (Below.refl w.heap.size w).alloc (Nat.le_refl _) (.cells #[.int .i64 n, .int .i64 d] 40)
  have HBX := hid hbx
  clear hbx
  go_wp2_with fail
  refine (H1.out _ ((R.out.below HBX.out).more HBX.out.size)).mono ?_
  rintro e w1 ⟨v1, er, res, rfl, ho1, ⟨A1, k1, rfl, rd1⟩, hb1⟩
  have hz := hb1.size
  simp at hz
  have c0 : w1.cell? ⟨w.heap.size, 0, none⟩ = some (.int .i64 n) := by rw [(bcell hb1).1 _ _ (by simp)]; simp [go_sem]
  have c1 : w1.cell? ⟨w.heap.size, 1, none⟩ = some (.int .i64 d) := by rw [(bcell hb1).1 _ _ (by simp)]; simp [go_sem]
  have HB1 := hid (fin.out _ _ HBX.out hb1)
  have Rd1 := hid rd1
  have Ho1 := hid ho1
  clear hb1 HBX rd1 ho1
  go_wp2_with fail
  refine (H2.out _ ((R.out.below HB1.out).more HB1.out.size)).mono ?_
  rintro e w2 ⟨v2, er2, res2, rfl, ho2, ⟨A2, k2, rfl, rd2⟩, hb2⟩
  obtain ⟨rfl, rfl⟩ := hout_one Ho1.out ho2
  have hsm := same_any (nz res) (nz res) A1 A2 k1 k2 (by have := hout_len Ho1.out; rw [nz_len]; omega) w2 w2.heap.size ((Rd1.out.below hb2).more hb2.size) rd2
  rw [nz_len] at hsm
  simp only [decide_true] at hsm
  have Hsm := hid hsm
  have HB2 := hid (fin.out _ _ HB1.out hb2)
  clear hb2 HB1 hsm rd2 ho2 c0 c1
  go_wp2_with (go_at_call 19; refine Hsm.out.mono ?_; rintro e w5 ⟨rfl, n5, rfl⟩)
  refine (works_any _).mono ?_
  rintro e w6 ⟨rfl, hb6⟩
  have Hb6 := hid hb6; clear hb6
  go_wp2_with fail
  go_ret
  exact ⟨rfl, fin.out _ _ (below_drewN HB2.out _) Hb6.out⟩
end Go.Proofs.Ytoljnbbhoeloeaa
