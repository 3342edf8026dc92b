/- slices.Clone at nodes. -/
import Derived.Test.YtddbnggficlcfaaTextL
namespace Go.Proofs.Ytddbnggficlcfaa
open Go.RowKit Go.Shelf
set_option maxRecDepth 100000 in
set_option maxHeartbeats 1000000 in
theorem cloneN_any (l : List Nd) (A : Option Addr) (c : Nat) (hl : l.length ≤ 1000000) (w : World) (B : Nat) (hB : B ≤ w.heap.size) (r : Nds w B A l) :
    Calls Try.prog 78 #[.slice A l.length c] w fun e w' => ∃ v, e = .returned v ∧ w'.ownsRow w.heap.size 78 8 v l.length (flatN l) ∧ Below w.heap.size w w' := by
  cases A with
  | none =>
    have h0 : l.length = 0 := by
      by_cases h : 0 < l.length
      · obtain ⟨_, e, _⟩ := r.2 h; cases e
      · omega
    obtain rfl : l = [] := List.eq_nil_of_length_eq_zero h0
    clear r h0
    have heq := fun w : World => run_eql_slice_nil (P := Try.prog) w 25 78 none 0 c Try.underlying25
    go_enter Try.func78, Try.ntmps78
    go_wp2_with fail
    go_ret
    exact ⟨_, rfl, World.ownsRow_nil _ _ _ _, Below.refl _ _⟩
  | some a =>
    have HP := hid (r.below ((Below.refl B w).alloc hB (.cells #[] 78)))
    have hown : (w.alloc (.cells #[] 78)).ownsRow w.heap.size 78 8 (.slice (some ⟨w.heap.size, 0, none⟩) 0 0) 0 [] := own_lit w _ #[] (Nat.le_refl _) rfl (by decide)
    have HO := hid hown
    clear r hown
    unfold Nds at HP
    obtain ⟨n, hn⟩ : ∃ n, n = l.length := ⟨_, rfl⟩
    rw [← hn] at HP hl ⊢
    clear hn
    have heq := fun w : World => run_eql_slice_nil (P := Try.prog) w 25 78 (some a) n c Try.underlying25
    go_enter Try.func78, Try.ntmps78
    go_wp2_with (first | (at_builtin; refine app_rdS rfl (.tmp 5) (.tmp 6) Try.underlying25 Try.infoNode rfl (by decide) (by decide) rfl w.heap.size _ 0 [] rfl HO.out (some a) n c B (flatN l) rfl HP.out (fun u hu => flatN_one hu) (by omega) (by simp) ?_; intro v4 w4 ho4 hg4; have HB4 := hid (below_app ((Below.refl w.heap.size w).alloc (Nat.le_refl _) _) HO.out hg4 (Nat.le_refl _) (by simp)); have HO4 := hid ho4; clear ho4 hg4))
    go_ret
    have h4 := HO4.out
    rw [Nat.zero_add, List.nil_append] at h4
    exact ⟨_, rfl, h4, HB4.out⟩
end Go.Proofs.Ytddbnggficlcfaa
