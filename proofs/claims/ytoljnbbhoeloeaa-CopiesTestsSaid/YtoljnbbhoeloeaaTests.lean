/- WALK: the law CopiesTests. -/
import Derived.Test.YtoljnbbhoeloeaaWorksW
namespace Go.Proofs.Ytoljnbbhoeloeaa
open Go.RowKit
set_option maxRecDepth 100000 in
set_option maxHeartbeats 1000000 in
theorem tests_any (a1 a2 b1 b2 : Int) (w : World) : Calls Try.prog 4 #[.agg #[.int .i64 a1, .int .i64 a2], .agg #[.int .i64 b1, .int .i64 b2]] w fun e w' => e = .returned (.bool true) ∧ Below w.heap.size w w' := by
  have hF := fun w' => fisher_call a1 a2 b1 b2 w'
  have hR := fun w' => ref_fisher_call a1 a2 b1 b2 w'
  unfold fRes at hF hR
  generalize fNumI a1 a2 b1 b2 = p at hF hR
  generalize fDenI a1 a2 b1 b2 = q at hF hR
  generalize fErr a1 a2 b1 b2 = r at hF hR
  have HF := hid hF; have HR := hid hR; clear hF hR
  go_enter Try.func4, Try.ntmps4
  go_wp2_with fail
  refine (HF.out _).mono ?_
  rintro e w1 ⟨rfl, hb1⟩
  have hz := hb1.size
  simp at hz
  have k0 : w1.cell? ⟨w.heap.size, 0, none⟩ = some (.int .i64 a1) := by rw [(bcell hb1).1 _ _ (by simp; omega)]; simp [go_sem]
  have k1 : w1.cell? ⟨w.heap.size, 1, none⟩ = some (.int .i64 a2) := by rw [(bcell hb1).1 _ _ (by simp; omega)]; simp [go_sem]
  have k2 : w1.cell? ⟨w.heap.size + 1, 0, none⟩ = some (.int .i64 b1) := by rw [(bcell hb1).1 _ _ (by simp)]; simp [go_sem]
  have k3 : w1.cell? ⟨w.heap.size + 1, 1, none⟩ = some (.int .i64 b2) := by rw [(bcell hb1).1 _ _ (by simp)]; simp [go_sem]
  have hs1 : w.heap.size + 1 < w1.heap.size := by omega
  have hs0 : w.heap.size < w1.heap.size := by omega
  have hbel : Below w.heap.size w w1 := by
    refine Below.trans ?_ (hb1.mono (by simp; omega))
    exact ((Below.refl _ _).alloc (Nat.le_refl _) _).alloc (by simp) _
  have Hbel := hid hbel
  clear hb1 hbel hz
  go_wp2_with fail
  refine (HR.out _).mono ?_
  rintro e w2 ⟨rfl, hb2⟩
  have hz := hb2.size
  simp at hz
  have j0 : w2.cell? ⟨w1.heap.size, 0, none⟩ = some (.int .i64 p) := by rw [(bcell hb2).1 _ _ (by simp)]; simp [go_sem]
  have j1 : w2.cell? ⟨w1.heap.size, 1, none⟩ = some (.int .i64 q) := by rw [(bcell hb2).1 _ _ (by simp)]; simp [go_sem]
  have hs2 : w1.heap.size < w2.heap.size := by omega
  have hbel : Below w.heap.size w w2 := Hbel.out.trans ((((Below.refl _ _).alloc (Nat.le_refl _) _).trans (hb2.mono (by simp))).mono Hbel.out.size)
  have Hbel2 := hid hbel
  clear hb2 hbel hz k0 k1 k2 k3 Hbel
  go_wp2_with fail
  refine (works_any _).mono ?_
  rintro e w3 ⟨rfl, hb3⟩
  have Hb3 := hid hb3; clear hb3
  go_wp2_with fail
  go_ret
  exact ⟨rfl, (Hbel2.out.alloc Hbel2.out.size _).trans (Hb3.out.mono (by have := Hbel2.out.size; simp; omega))⟩
end Go.Proofs.Ytoljnbbhoeloeaa
