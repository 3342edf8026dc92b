/- ostraconlaw02.works. -/
import Derived.Test.YtddbnggficlcfaaOrdE
import Derived.Test.YtddbnggficlcfaaCopy2
namespace Go.Proofs.Ytddbnggficlcfaa
open Go.RowKit
def ss0 : List Sg := [⟨⟨#[65, 49]⟩, 1, 1, false, [], none, 0⟩, ⟨⟨#[66, 50]⟩, 1, 1, false, [], none, 0⟩]
def l0 : List Nd := [⟨7, 0, 0, 0, false, 0, 0, 0⟩, ⟨1, 1, 0, 0, false, 0, 0, 0⟩, ⟨1, 1, 1, 0, false, 0, 0, 0⟩]
theorem list0 : listE 1 ss0 = 0 := by decide +kernel
theorem own0 : firstE (ownE ss0 l0) l0.length = 0 := by decide +kernel
theorem fam0 : ∀ i, i < l0.length → famRs l0 i := by
  intro i hi
  have : i = 0 ∨ i = 1 ∨ i = 2 := by
    have : l0.length = 3 := rfl
    omega
  rcases this with rfl | rfl | rfl
  all_goals
    unfold famRs famR
    decide +kernel
theorem chk0 : chkE 1 ss0 l0 = 0 := chkE_ok list0 (by decide) own0 fam0
theorem marks0 : marks l0 = [⟨1, 0, 0, 0⟩, ⟨0, 0, 0, 0⟩] := by decide +kernel
theorem ord0 : ordE 1 ss0 l0 = 0 ∧ ordL 1 ss0 l0 = [1, 0] := by
  have h : noGap (marks l0) := by
    rw [marks0]
    intro m hm
    simp only [List.mem_cons, List.not_mem_nil, or_false] at hm
    rcases hm with rfl | rfl <;> decide
  have h2 := ordE_ok chk0 h
  rw [marks0] at h2
  exact h2
theorem reads_blk {w : World} {g B n size : Nat} {xs : List Value} {T : TypeId} {fz : Nat × Nat} (h : w.heap[g]? = some (.cells xs.toArray T fz)) (hl : xs.length = n * size) (hg : g < B) : Reads w B size (some ⟨g, 0, none⟩) n xs :=
  ⟨hl, fun _ => ⟨_, rfl, hg, fun j u hu => by
    rw [Addr.add_lit, Nat.zero_add]
    simp [World.cell?, h, hu]⟩⟩
set_option maxRecDepth 100000 in
set_option maxHeartbeats 1000000 in
theorem works_any (w : World) : Calls Try.prog 16 #[] w fun e w' => e = .returned (.bool true) ∧ Below w.heap.size w w' := by
  go_enter Try.func16, Try.ntmps16
  go_wp2_with fail
  obtain ⟨W, hW⟩ : ∃ W, W = (((w.alloc (.cells (flatS ss0).toArray 76)).alloc (.cells #[.int .i64 1, .slice (some ⟨w.heap.size, 0, none⟩) 2 2] 24)).alloc (.cells (flatN l0).toArray 78)).alloc (.cells #[.slice (some ⟨w.heap.size + 1 + 1, 0, none⟩) 3 3] 27) := ⟨_, rfl⟩
  have hb : Below w.heap.size w W := by rw [hW]; exact ((((Below.refl _ _).alloc (Nat.le_refl _) _).alloc (by simp) _).alloc (by simp; omega) _).alloc (by simp; omega) _
  have hz : W.heap.size = w.heap.size + 4 := by rw [hW]; simp
  have h1 : W.heap[w.heap.size]? = some (.cells (flatS ss0).toArray 76 (0, 0)) := by rw [hW]; exact heap_od (heap_od (heap_od (heap_nw rfl)))
  have h2 : W.heap[w.heap.size + 1 + 1]? = some (.cells (flatN l0).toArray 78 (0, 0)) := by rw [hW]; exact heap_od (heap_nw (by simp))
  have rs : Sgs W W.heap.size (some ⟨w.heap.size, 0, none⟩) ss0 := ⟨reads_blk h1 (flatS_len _) (by omega), fun s hs => by
    simp only [ss0, List.mem_cons, List.not_mem_nil, or_false] at hs
    rcases hs with rfl | rfl <;> exact Reads.none_⟩
  have rn : Nds W W.heap.size (some ⟨w.heap.size + 1 + 1, 0, none⟩) l0 := reads_blk h2 (flatN_len _) (by omega)
  have hc := orderE_any 1 ss0 l0 (by decide) (fun s hs => by
    simp only [ss0, List.mem_cons, List.not_mem_nil, or_false] at hs
    rcases hs with rfl | rfl <;> exact ⟨by decide, by decide⟩) (by decide) (by rw [marks0]; decide) _ _ 2 3 W rs rn
  rw [ord0.1, ord0.2] at hc
  have HC := hid hc; have HB := hid hb
  have hW2 : W = _ := hW
  clear hc rs rn h1 h2 hz hb
  rw [show (((w.alloc (.cells #[.string ⟨#[65, 49]⟩, .int .i64 1, .int .i64 1, .bool false, .slice none 0 0, .string ⟨#[66, 50]⟩, .int .i64 1, .int .i64 1, .bool false, .slice none 0 0] 76)).alloc (.cells #[.int .i64 1, .slice (some ⟨w.heap.size, 0, none⟩) 2 2] 24)).alloc (.cells #[.int .i64 7, .int .i64 0, .int .i64 0, .int .i64 0, .bool false, .int .i64 0, .int .i64 0, .int .i64 0, .int .i64 1, .int .i64 1, .int .i64 0, .int .i64 0, .bool false, .int .i64 0, .int .i64 0, .int .i64 0, .int .i64 1, .int .i64 1, .int .i64 1, .int .i64 0, .bool false, .int .i64 0, .int .i64 0, .int .i64 0] 78)).alloc (.cells #[.slice (some ⟨w.heap.size + 1 + 1, 0, none⟩) 3 3] 27) = W from hW.symm]
  clear hW hW2
  refine HC.out.mono ?_
  rintro e w3 ⟨v, rfl, ho, hb3⟩
  obtain ⟨g, cg, rfl, hg1, hg2⟩ := ho.form (by decide)
  have q0 := ho.cellAt 0 (by decide)
  have q1 := ho.cellAt 1 (by decide)
  have HB3 := hid (HB.out.trans (hb3.mono HB.out.size))
  simp only [ints, List.map_cons, List.map_nil, List.getElem?_cons_zero, List.getElem?_cons_succ, List.length_cons, List.length_nil, Nat.zero_add, Nat.reduceAdd] at q0 q1 ⊢
  clear ho hb3
  go_wp2_with fail
  go_ret
  exact ⟨rfl, HB3.out⟩
end Go.Proofs.Ytddbnggficlcfaa
