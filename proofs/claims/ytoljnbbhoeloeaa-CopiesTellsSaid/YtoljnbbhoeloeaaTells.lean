/- WALK: the law CopiesTells. -/
import Derived.Test.YtoljnbbhoeloeaaRefApart
import Derived.Test.YtoljnbbhoeloeaaWorksW
namespace Go.Proofs.Ytoljnbbhoeloeaa
open Go.RowKit
set_option maxRecDepth 100000 in
set_option maxHeartbeats 1000000 in
theorem tells_any (a b : List (Int × Int)) (n d : Int) (Aa Ab : Option Addr) (ca cb : Nat) (w : World) (ra : Rp w w.heap.size Aa a) (rb : Rp w w.heap.size Ab b) :
    Calls Try.prog 10 #[.slice Aa a.length ca, .slice Ab b.length cb, .agg #[.int .i64 n, .int .i64 d]] w fun e w' => e = .returned (.bool true) ∧ Below w.heap.size w w' := by
  have h1 := fun W (r1 : Rp W W.heap.size Aa a) (r2 : Rp W W.heap.size Ab b) => apart_any a b n d Aa Ab ca cb W r1 r2
  have h2 := fun W (r1 : Rp W W.heap.size Aa a) (r2 : Rp W W.heap.size Ab b) => ref_apart_any a b n d Aa Ab ca cb W r1 r2
  generalize tlIs a b n d = p at h1 h2
  generalize tlErr a b n d = q at h1 h2
  have H1 := hid h1; have H2 := hid h2; have Ra := hid ra; have Rb := hid rb
  clear h1 h2 ra rb
  go_enter Try.func10, Try.ntmps10
  have fin : Hid (∀ W W', Below w.heap.size w W → Below W.heap.size W W' → Below w.heap.size w W') := fun W W' h h' => h.trans (h'.mono h.size)
  have hbx := (Below.refl w.heap.size w).alloc (Nat.le_refl _) (.cells #[.int .i64 n, .int .i64 d] 40)
  have HBX := hid hbx
  clear hbx
  go_wp2_with fail
  refine (H1.out _ ((Ra.out.below HBX.out).more HBX.out.size) ((Rb.out.below HBX.out).more HBX.out.size)).mono ?_
  rintro e w1 ⟨rfl, hb1⟩
  have hz := hb1.size
  simp at hz
  have c0 : w1.cell? ⟨w.heap.size, 0, none⟩ = some (.int .i64 n) := by rw [(bcell hb1).1 _ _ (by simp)]; simp [go_sem]
  have c1 : w1.cell? ⟨w.heap.size, 1, none⟩ = some (.int .i64 d) := by rw [(bcell hb1).1 _ _ (by simp)]; simp [go_sem]
  have HB1 := hid (fin.out _ _ HBX.out hb1)
  clear hb1 HBX
  go_wp2_with fail
  refine (H2.out _ ((Ra.out.below HB1.out).more HB1.out.size) ((Rb.out.below HB1.out).more HB1.out.size)).mono ?_
  rintro e w2 ⟨rfl, hb2⟩
  have HB2 := hid (fin.out _ _ HB1.out hb2)
  clear hb2 HB1
  go_wp2_with fail
  refine (works_any _).mono ?_
  rintro e w3 ⟨rfl, hb3⟩
  have HB3 := hid (fin.out _ _ HB2.out hb3)
  go_wp2_with fail
  go_ret
  exact ⟨rfl, HB3.out⟩
end Go.Proofs.Ytoljnbbhoeloeaa
