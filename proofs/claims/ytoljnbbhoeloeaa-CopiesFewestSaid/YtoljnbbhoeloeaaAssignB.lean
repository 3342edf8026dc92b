/- WALK: copies.assign. -/
import Derived.Test.YtoljnbbhoeloeaaAssign
namespace Go.Proofs.Ytoljnbbhoeloeaa
open Go.RowKit
/-- The world in which assign calls its closure: its boxes, the list's cell, the closure's cell. -/
def aw (cs : Array Value) (N S : Nat) (w : World) : World :=
  ((((w.alloc (.cells cs 115)).alloc (.cells #[.int .i64 N] 3)).alloc (.cells #[.int .i64 S] 3)).alloc (.cells #[.slice none 0 0] 22)).alloc (.cells #[.func (.func 88) #[] #[.pointer (some ⟨w.heap.size + 1 + 1 + 1, 0, none⟩), .pointer (some ⟨w.heap.size + 1, 0, none⟩), .pointer (some ⟨w.heap.size + 1 + 1, 0, none⟩), .pointer (some ⟨w.heap.size, 0, none⟩), .pointer (some ⟨w.heap.size + 1 + 1 + 1 + 1, 0, none⟩)]] 123)
theorem aw_bel (cs : Array Value) (N S : Nat) (w : World) : Below w.heap.size w (aw cs N S w) := by
  unfold aw
  exact (((((Below.refl w.heap.size w).alloc (Nat.le_refl _) (.cells cs 115)).alloc (by simp) (.cells #[.int .i64 N] 3)).alloc (by simp; omega) (.cells #[.int .i64 S] 3)).alloc (by simp; omega) (.cells #[.slice none 0 0] 22)).alloc (by simp; omega) _
theorem aw_fix {cs : Array Value} {N S : Nat} {ap : Nat → Nat → Bool} {w : World} (hc : ∀ i k, i < 8 → k < 8 → cs[i * 8 + k]? = some (.bool (ap i k))) : AFix N S w.heap.size ap (aw cs N S w) where
  n_ := by simp [aw, go_sem]
  s_ := by simp [aw, go_sem]
  ap_ := fun i k hi hk => by
    have := hc i k hi hk
    simp [aw, go_sem, this]
  nx := by simp [aw, go_sem]
theorem aw_mem {cs : Array Value} {N S : Nat} {w : World} : AMem (aw cs N S w) w.heap.size [] (.slice none 0 0) (aw cs N S w) where
  os := rfl
  tape := rfl
  output := rfl
  sz := by simp [aw]
  size := Nat.le_refl _
  fx := fun _ _ _ => rfl
  lb := by
    unfold aw
    rw [((Below.refl (w.heap.size + 4) _).alloc (by simp) _).block (w.heap.size + 3) (by omega)]
    have := heap_alloc_new (((w.alloc (.cells cs 115)).alloc (.cells #[.int .i64 N] 3)).alloc (.cells #[.int .i64 S] 3)) (.cells #[.slice none 0 0] 22)
    simpa using this
  own := World.ownsRow_nil _ _ _ _
set_option maxRecDepth 100000 in
set_option maxHeartbeats 2000000 in
theorem assign_any (N S : Nat) (ap : Nat → Nat → Bool) (hN : N ≤ 8) (hS : S ≤ 8) (cs : Array Value) (hs : cs.size = 64) (hc : ∀ i k, i < 8 → k < 8 → cs[i * 8 + k]? = some (.bool (ap i k))) (w : World) :
    Calls Try.prog 71 #[.agg cs, .int .i64 N, .int .i64 S] w fun e w' => ∃ v, e = .returned (.tuple #[v, .bool (dfs ap S N []).isSome]) ∧
      w'.ownsRow w.heap.size 3 1 v ((dfs ap S N []).getD []).length (ints (nz ((dfs ap S N []).getD []))) ∧ Below w.heap.size w w' := by
  have HF := hid (aw_fix (N := N) (S := S) (w := w) hc)
  have HC : Hid (∀ w', w' = aw cs N S w → Calls Try.prog 88 #[.int .i64 0, .pointer (some ⟨w.heap.size + 3, 0, none⟩), .pointer (some ⟨w.heap.size + 1, 0, none⟩), .pointer (some ⟨w.heap.size + 2, 0, none⟩), .pointer (some ⟨w.heap.size, 0, none⟩), .pointer (some ⟨w.heap.size + 4, 0, none⟩)] w'
      fun e w' => e = .returned (.bool (dfs ap S N []).isSome) ∧ ∃ v', AMem (aw cs N S w) w.heap.size ((dfs ap S N []).getD []) v' w') := fun w' h => by
    rw [h]
    exact next_any N S w.heap.size ap hN hS _ HF.out N 0 [] _ _ rfl (by simp) (by simp [nxt]) aw_mem
  clear hc
  have hst : ∀ (m : Mode) (a : Addr) (fn : Fn) (first cap : Array Value) (w : World), (store a (.func fn first cap) m).run Try.prog w = stored Try.prog w a (.func fn first cap) m := fun m a fn first cap w => run_store _ w a _ m rfl
  have z4 : (((((w.alloc (.cells cs 115)).alloc (.cells #[.int .i64 N] 3)).alloc (.cells #[.int .i64 S] 3)).alloc (.cells #[.slice none 0 0] 22)).alloc (.cells #[.nilFunc] 123)).cell? ⟨w.heap.size + 1 + 1 + 1 + 1, 0, none⟩ = some .nilFunc := by simp [go_sem]
  have z5 : (((((w.alloc (.cells cs 115)).alloc (.cells #[.int .i64 N] 3)).alloc (.cells #[.int .i64 S] 3)).alloc (.cells #[.slice none 0 0] 22)).alloc (.cells #[.nilFunc] 123)).frozen? ⟨w.heap.size + 1 + 1 + 1 + 1, 0, none⟩ = false := by simp [go_sem]
  go_enter Try.func71, Try.ntmps71
  go_wp2_with (first | (go_at_call 88; refine (HC.out _ rfl).mono ?_; rintro e w5 ⟨rfl, v5, hm5⟩; obtain ⟨A5, c5, rfl⟩ := hm5.val; have p8 := hm5.lcell; have p9 := hm5.lfree; have HM5 := hid hm5))
  have p10 : (w5.setCell ⟨w.heap.size + 1 + 1 + 1, 0, none⟩ (.slice A5 ((dfs ap S N []).getD []).length c5)).cell? ⟨w.heap.size + 1 + 1 + 1, 0, none⟩ = some (.slice A5 ((dfs ap S N []).getD []).length c5) := cell_of_one (one_setCell HM5.out.lb)
  refine bodyPost_ret (v := .tuple #[.slice A5 ((dfs ap S N []).getD []).length c5, .bool (dfs ap S N []).isSome]) (by simp [results, Try.results71, go_sem, p10]) rfl ⟨_, rfl, ?_, ?_⟩
  · have := own_base HM5.out.own (B' := w.heap.size) (by omega)
    exact ownsRow_setCell_other this (a := ⟨w.heap.size + 1 + 1 + 1, 0, none⟩) (fun he => by have := (HM5.out.own.lt _ he).1; simp at this; omega) _
  · exact ((aw_bel cs N S w).trans (HM5.out.bel.mono (Nat.le_refl _))).setCell (by simp; omega) _
end Go.Proofs.Ytoljnbbhoeloeaa
