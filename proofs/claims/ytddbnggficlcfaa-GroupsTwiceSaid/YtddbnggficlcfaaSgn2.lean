/- signs.checkValue: its closure, slices.IndexFunc and ContainsFunc over values. -/
import Derived.Test.YtddbnggficlcfaaSgn
import Derived.Shelf.Abstract
namespace Go.Proofs.Ytddbnggficlcfaa
open Go.RowKit
set_option maxRecDepth 100000 in
theorem clos_any (v x : Vl) (b : Nat) (w : World) (h : VlAt w b 0 v) (hb : b < w.heap.size) :
    Calls Try.prog 102 #[.agg #[.int .i64 x.kind, .string x.text, .int .i64 x.frm, .int .i64 x.to], .pointer (some ⟨b, 0, none⟩)] w fun e w' => e = .returned (.bool (meetB v x)) ∧ Below w.heap.size w w' := by
  have hm := hid (fun w3 => meet_any v x w3)
  have c1 := h.kind; have c2 := h.text; have c3 := h.frm; have c4 := h.to
  obtain ⟨k, t, f, g⟩ := v
  obtain ⟨k2, t2, f2, g2⟩ := x
  generalize meetB _ _ = r at hm ⊢
  simp only [] at hm c1 c2 c3 c4 ⊢
  have HB := hid ((Below.refl w.heap.size w).alloc (Nat.le_refl _) (.cells #[.int .i64 k2, .string t2, .int .i64 f2, .int .i64 g2] 108))
  clear h
  go_enter Try.func102, Try.ntmps102
  go_wp2_with (go_at_call 103; refine (hm.out _).mono ?_; rintro e w3 ⟨rfl, hb3⟩; have HB3 := hid (HB.out.trans (hb3.mono (by simp))); clear hb3)
  go_ret
  exact ⟨rfl, HB3.out⟩
set_option maxRecDepth 100000 in
set_option maxHeartbeats 1000000 in
theorem idx_any (l : List Vl) (v : Vl) (A : Option Addr) (c b : Nat) (hl : l.length ≤ 1000000) (w : World) (h : VlAt w b 0 v) (hb : b < w.heap.size) (r : Vls w w.heap.size A l) :
    Calls Try.prog 108 #[.slice A l.length c, .func (.func 102) #[] #[.pointer (some ⟨b, 0, none⟩)]] w fun e w' => (∃ i : Int, e = .returned (.int .i64 i) ∧ decide (0 ≤ i) = l.any (meetB v)) ∧ Below w.heap.size w w' := by
  have eg : ∀ args w, (callFunc 102 args).run Try.prog w = .ok (.enter 102 args) w := enters_of Try.func102 (by kernel_rfl) rfl
  obtain ⟨n, hn⟩ : ∃ n, n = l.length := ⟨_, rfl⟩
  rw [← hn] at hl ⊢
  have Hn := hid hn; have HV := hid h; have HR := hid r
  clear hn h r
  go_enter Try.func108, Try.ntmps108
  go_wp2_with fail
  go_loopw [8] (fun kv wr => ∃ k : Nat, k ≤ n ∧ kv = .int .i64 k ∧ Hid ((l.take k).any (meetB v) = false) ∧ Hid (Below w.heap.size w wr)) (fun kv _ => n - (intOf kv).toNat)
  case atStart => exact ⟨0, by omega, rfl, hid rfl, hid (Below.refl _ _)⟩
  case round =>
    obtain ⟨k, hk, rfl, hA, hB⟩ := hrel
    by_cases hkn : k < n
    · have hkl : k < l.length := by rw [← Hn.out]; exact hkn
      obtain ⟨b1, o1, hA1, hb1, hc1⟩ := HR.out.at (by omega)
      subst hA1
      have hx := (hc1 k hkl).below hB.out hb1
      have c1 := hx.kind; have c2 := hx.text; have c3 := hx.frm; have c4 := hx.to
      have hcl := hid (fun w3 (hb3 : Below w.heap.size w w3) => clos_any v l[k] b w3 (HV.out.below hb3 hb) (by have := hb3.size; omega))
      have hyes : meetB v l[k] = true → l.any (meetB v) = true := fun h => List.any_eq_true.2 ⟨_, List.getElem_mem hkl, h⟩
      have hno : meetB v l[k] = false → (l.take (k + 1)).any (meetB v) = false := fun h => by
        rw [List.take_add_one, List.getElem?_eq_getElem hkl, Option.toList_some, List.any_append, hA.out]
        simp [h]
      have q1 : (k : Int) < (n : Int) := by omega
      generalize meetB v l[k] = m at hcl hyes hno
      generalize l[k] = x at c1 c2 c3 c4 hcl
      obtain ⟨k2, t2, f2, g2⟩ := x
      simp only [] at c1 c2 c3 c4 hcl
      clear hx hc1
      cases m with
      | true =>
        have HY := hid (hyes rfl)
        clear hyes hno hA
        go_wp2_with (go_at_call 102; refine (hcl.out _ hB.out).mono ?_; rintro e w3 ⟨rfl, hb3⟩; have HB3 := hid (hB.out.trans (hb3.mono hB.out.size)); clear hb3)
        go_ret
        exact ⟨⟨k, rfl, by rw [HY.out]; simp⟩, HB3.out⟩
      | false =>
        have HY := hid (hno rfl)
        clear hyes hno hA
        go_wp2_with (go_at_call 102; refine (hcl.out _ hB.out).mono ?_; rintro e w3 ⟨rfl, hb3⟩; have HB3 := hid (hB.out.trans (hb3.mono hB.out.size)); clear hb3)
        go_roundw
        case rel => exact ⟨k + 1, by omega, by go_num, HY, HB3⟩
        case measure => simp [intOf]; omega
    · obtain rfl : n = k := by omega
      have hx := hA.out
      rw [Hn.out, List.take_length] at hx
      have HX := hid hx
      clear hx hA
      go_wp2_with fail
      go_ret
      exact ⟨⟨-1, rfl, by rw [HX.out]; rfl⟩, hB.out⟩
set_option maxRecDepth 100000 in
theorem contains_any (l : List Vl) (v : Vl) (A : Option Addr) (c b : Nat) (hl : l.length ≤ 1000000) (w : World) (h : VlAt w b 0 v) (hb : b < w.heap.size) (r : Vls w w.heap.size A l) :
    Calls Try.prog 101 #[.slice A l.length c, .func (.func 102) #[] #[.pointer (some ⟨b, 0, none⟩)]] w fun e w' => e = .returned (.bool (l.any (meetB v))) ∧ Below w.heap.size w w' := by
  have hi := hid (idx_any l v A c b hl w h hb r)
  generalize l.any (meetB v) = m at hi ⊢
  clear h r hl
  go_enter Try.func101, Try.ntmps101
  go_wp2_with (go_at_call 108; refine hi.out.mono ?_; rintro e w3 ⟨⟨i, rfl, hi⟩, hb3⟩; have HB3 := hid hb3; have HI := hid hi; clear hb3 hi)
  go_ret
  exact ⟨by rw [← HI.out]; rfl, HB3.out⟩
end Go.Proofs.Ytddbnggficlcfaa
