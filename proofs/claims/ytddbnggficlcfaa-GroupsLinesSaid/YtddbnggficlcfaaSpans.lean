/- ostraconlaw02.spans. -/
import Derived.Test.YtddbnggficlcfaaSameM
namespace Go.Proofs.Ytddbnggficlcfaa
open Go.RowKit Go.Shelf
set_option maxRecDepth 100000 in
set_option maxHeartbeats 4000000 in
theorem spans_any (L : List (Int × Int)) (A : Option Addr) (c : Nat) (hl : L.length ≤ 1000000) (w : World) (r : Prs w w.heap.size A L) :
    Calls Try.prog 36 #[.slice A L.length c] w fun e w' => ∃ v, e = .returned v ∧ w'.ownsRow w.heap.size 72 2 v L.length (flat2 L) ∧ Below w.heap.size w w' := by
  have HR := hid r
  obtain ⟨n, hn⟩ : ∃ n, n = L.length := ⟨_, rfl⟩
  rw [← hn] at hl ⊢
  have HN := hid hn
  clear r hn
  go_enter Try.func36, Try.ntmps36
  go_wp2_with fail
  go_loopw [3, 4] (fun vv kv wr => ∃ k : Nat, k ≤ n ∧ kv = .int .i64 k ∧ Hid (wr.ownsRow w.heap.size 72 2 vv k (flat2 (L.take k))) ∧ Hid (Below w.heap.size w wr)) (fun _ kv _ => n - (intOf kv).toNat)
  case atStart => exact ⟨0, by omega, rfl, World.ownsRow_nil _ _ _ _, Below.refl _ _⟩
  case round =>
    obtain ⟨k, hk, rfl, hO, hB⟩ := hrel
    obtain ⟨A6, c6, rfl⟩ := own_slice hO.out
    by_cases hkn : k < n
    · have hkl : k < L.length := by rw [← HN.out]; exact hkn
      obtain ⟨b, o, rfl, hb, hc⟩ := HR.out.at (by omega)
      have hx := (hc k hkl).below hB.out hb
      have hst : L.take (k + 1) = L.take k ++ [L[k]'hkl] := by rw [List.take_add_one, List.getElem?_eq_getElem hkl, Option.toList_some]
      generalize L[k]'hkl = p at hx hst
      obtain ⟨x1, x2⟩ := p
      have d1 := hx.p1; have d2 := hx.p2
      simp only [] at d1 d2
      have g0 : (k : Int) < (n : Int) := by omega
      have HST := hid hst; have HO := hid hO.out; have HB := hid hB.out
      have HOA := hid fun (X : Obj) => own_keep hO.out (((Below.refl wr.heap.size wr).drew).alloc (Nat.le_refl _) X)
      have HBA := hid fun (X : Obj) => (hB.out.drew).alloc hB.out.size X
      clear hst hO hB hx hc
      go_wp2_with fail
      go_region_law (refine step_two Try.underlying50 Try.infoPair rfl (.tmp 11) (.tmp 23) rfl w.heap.size _ k (L.take k) rfl (HOA.out _) ⟨wr.heap.size, 0, none⟩ (x1, x2) (by simp [Act.eval, Act.put]) (cell_news wr.drew (cells2 (x1, x2)) 72) (by omega) (HBA.out _).size ?_; intro v4 w4 ho4 hg4; have HB4 := hid (below_app (HBA.out _) (HOA.out _) hg4 (Nat.le_refl _) (HBA.out _).size); obtain ⟨A8, c8, rfl⟩ := own_slice ho4; have HO4 := hid ho4; clear ho4 hg4)
      all_goals
        go_wp2_with fail
        go_roundw
        case rel => exact ⟨k + 1, by omega, by go_num, by rw [HST.out]; exact HO4, HB4⟩
        case measure => simp [intOf]; omega
    · obtain rfl : n = k := by omega
      have g0 : decide (n < n) = false := by simp
      have hO2 := hO.out
      rw [HN.out, List.take_length, ← HN.out] at hO2
      have HO2 := hid hO2
      clear hO hO2
      go_wp2_with fail
      go_ret
      exact ⟨_, rfl, HO2.out, hB.out⟩
end Go.Proofs.Ytddbnggficlcfaa
