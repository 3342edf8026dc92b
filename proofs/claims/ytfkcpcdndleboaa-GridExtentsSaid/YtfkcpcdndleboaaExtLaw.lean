/- WALK: the law GridExtents (printed by gen_l_exts.py). -/
import Derived.Test.YtfkcpcdndleboaaExtR
import Derived.Test.YtfkcpcdndleboaaLayE
namespace Go.Proofs.Ytfkcpcdndleboaa
open Go.RowKit
theorem flatB_one2 {L : List Bxv} {u : Value} (h : u ∈ flatB L) : u.oneCell' = true := by
  unfold flatB at h
  obtain ⟨n, _, h2⟩ := List.mem_flatMap.1 h
  simp only [bxC, List.mem_cons, List.not_mem_nil, or_false] at h2
  rcases h2 with rfl | rfl | rfl | rfl | rfl | rfl | rfl | rfl | rfl | rfl | rfl | rfl | rfl | rfl | rfl <;> rfl
set_option maxRecDepth 100000 in
set_option maxHeartbeats 1000000 in
theorem copied_any2 (L : List Bxv) (A : Option Addr) (c : Nat) (hl : L.length ≤ 1000000) (w : World) (r : Bxs w w.heap.size A L) :
    Calls Try.prog 37 #[.slice A L.length c] w fun e w' => ∃ A' c', e = .returned (.slice A' L.length c') ∧ Bxs w' w'.heap.size A' L ∧ Below w.heap.size w w' := by
  obtain ⟨n, hn⟩ : ∃ n, n = L.length := ⟨_, rfl⟩
  obtain ⟨w1, hw1⟩ : ∃ w1, w1 = w.alloc (.cells #[] 54) := ⟨_, rfl⟩
  have hb1 : Below w.heap.size w w1 := by rw [hw1]; exact (Below.refl _ _).alloc (Nat.le_refl _) _
  have ho : w1.ownsRow w.heap.size 54 15 (.slice (some ⟨w.heap.size, 0, none⟩) 0 0) 0 [] := by
    rw [hw1]
    have := own_lit w (B := w.heap.size) 54 #[] (n := 0) (size := 15) (Nat.le_refl _) rfl (by decide)
    simpa using this
  have hr1 : Reads w1 w.heap.size 15 A n (flatB L) := by rw [hn]; exact Reads.below r hb1
  have HOUT := hid fun (w6 : World) (A6 : Option Addr) (c6 : Nat) (h : w6.ownsRow w.heap.size 54 15 (.slice A6 n c6) n (flatB L)) => (show Bxs w6 w6.heap.size A6 L from by unfold Bxs; rw [← hn]; exact Reads.of_own h)
  rw [← hn] at hl ⊢
  have HW1 := hid hw1; have HB1 := hid hb1; have HO := hid ho; have HR := hid hr1
  clear hw1 hb1 ho hr1 r hn
  go_enter Try.func37, Try.ntmps37
  go_wp2_with (first | (at_builtin; rw [← HW1.out]; refine app_rdS rfl (.tmp 3) (.tmp 4) Try.underBoxes Try.infoBox rfl (by decide) (by decide) rfl w.heap.size _ 0 [] rfl HO.out A n c w.heap.size (flatB L) rfl HR.out (fun u hu => flatB_one2 hu) (by omega) HB1.out.size ?_; intro v6 w6 ho6 hg6; rw [Nat.zero_add, List.nil_append] at ho6; have HB6 := hid (below_app HB1.out HO.out hg6 (Nat.le_refl _) HB1.out.size); obtain ⟨A6, c6, rfl⟩ := own_slice ho6; have HO6 := hid ho6; clear ho6 hg6))
  go_ret
  exact ⟨A6, c6, rfl, HOUT.out _ _ _ HO6.out, HB6.out⟩
set_option maxRecDepth 100000 in
set_option maxHeartbeats 4000000 in
theorem extents_law (L : List Bxv) (A : Option Addr) (c : Nat) (_hl : L.length ≤ 9223372036854775807) (w : World) (r : Bxs w w.heap.size A L) :
    Calls Try.prog 8 #[.slice A L.length c] w fun e w' => e = .returned (.bool true) ∧ Below w.heap.size w w' := by
  have HWK := hid fun W : World => works_any W
  by_cases h0 : 210 < L.length
  · have g0 : decide ((210 : Int) < (L.length : Int)) = true := decide_eq_true (by omega)
    generalize L.length = n at *
    clear h0 r
    go_enter Try.func8, Try.ntmps8
    go_wp2_with (first | (go_at_call 11; refine (HWK.out _).mono ?_; rintro e w3 ⟨rfl, hb3⟩; have HB3 := hid hb3; clear hb3))
    go_ret
    exact ⟨rfl, HB3.out⟩
  · have g0 : decide ((210 : Int) < (L.length : Int)) = false := decide_eq_false (by omega)
    have hn : L.length ≤ 1000000 := by omega
    have HCP := hid (copied_any2 L A c hn w r)
    have HE1 := hid fun (A1 : Option Addr) (c1 : Nat) (W : World) (hr : Bxs W W.heap.size A1 L) => extent_any L A1 c1 hn W hr
    have HE2 := hid fun (W : World) (h : Below w.heap.size w W) => extentR_any L A c hn W ((r.below h).more h.size)
    unfold ExtPost frV at HE1
    unfold ExtPostR at HE2
    generalize extV L = V at *
    generalize hnn : L.length = n at *
    clear h0 r hn hnn
    go_enter Try.func8, Try.ntmps8
    go_upto_region 4 with (first | (go_at_call 37; refine HCP.out.mono ?_; rintro e w2 ⟨A2, c2, rfl, hr2, hb2⟩; have HR2 := hid hr2; have HB2 := hid hb2; clear hr2 hb2) | (go_at_call 36; refine (HE1.out _ _ _ HR2.out).mono ?_; rintro e w3 ⟨rfl, hb3⟩; have HB3 := hid (bnext0 HB2.out hb3); clear hb3))
    obtain ⟨w4, hw4⟩ : ∃ w4, w4 = (((w3.alloc (.cells #[.int .i64 V.1.x.n, .int .i64 V.1.x.d] 52)).alloc (.cells #[.int .i64 V.1.y.n, .int .i64 V.1.y.d] 52)).alloc (.cells #[.int .i64 V.1.r.n, .int .i64 V.1.r.d] 52)).alloc (.cells #[.int .i64 V.1.l.n, .int .i64 V.1.l.d] 52) := ⟨_, rfl⟩
    obtain ⟨b3, hb3⟩ : ∃ b, b = w3.heap.size := ⟨_, rfl⟩
    obtain ⟨b4, hb4⟩ : ∃ b, b = w3.heap.size + 1 := ⟨_, rfl⟩
    obtain ⟨b5, hb5⟩ : ∃ b, b = w3.heap.size + 2 := ⟨_, rfl⟩
    obtain ⟨b6, hb6⟩ : ∃ b, b = w3.heap.size + 3 := ⟨_, rfl⟩
    have hf4 : Fr4 w4 b3 b4 b5 b6 V.1.x V.1.y V.1.r V.1.l := by rw [hw4, hb3, hb4, hb5, hb6]; exact ⟨old_blk (old_blk (old_blk (nw_blk rfl))), old_blk (old_blk (nw_blk (by simp))), old_blk (nw_blk (by simp)), nw_blk (by simp)⟩
    have hb34 : Below w3.heap.size w3 w4 := by rw [hw4]; exact ((((Below.refl _ _).alloc (Nat.le_refl _) _).alloc (by simp) _).alloc (by simp; omega) _).alloc (by simp; omega) _
    try simp only [Nat.add_assoc, Nat.reduceAdd]
    rw [← hw4]
    try rw [← hb6]
    try rw [← hb5]
    try rw [← hb4]
    try rw [← hb3]
    have HF4 := hid hf4; have HB4 := hid (bnext0 HB3.out hb34)
    clear hw4 hb3 hb4 hb5 hb6 hf4 hb34
    go_upto_region 5 with (first | (go_at_call 38; refine (HE2.out w4 HB4.out).mono ?_; rintro e w5 ⟨rfl, hb5⟩; have HX5 := hid hb5; clear hb5))
    obtain ⟨w6, hw6⟩ : ∃ w6, w6 = w5.alloc (.cells #[.int .i64 V.1.x.n, .int .i64 V.1.x.d, .int .i64 V.1.y.n, .int .i64 V.1.y.d, .int .i64 V.1.r.n, .int .i64 V.1.r.d, .int .i64 V.1.l.n, .int .i64 V.1.l.d] 74) := ⟨_, rfl⟩
    obtain ⟨b8, hb8⟩ : ∃ b, b = w5.heap.size := ⟨_, rfl⟩
    have ha : Ar8 w6 b8 V.1.x V.1.y V.1.r V.1.l := by rw [hw6, hb8]; exact nw_blk rfl
    have hx6 : Below w5.heap.size w5 w6 := by rw [hw6]; exact (Below.refl _ _).alloc (Nat.le_refl _) _
    rw [← hw6]
    try rw [← hb8]
    have HF6 := hid ((HF4.out.below HX5.out).below hx6)
    have HB6 := hid (bnext0 HB4.out (bnext0 HX5.out hx6))
    have qa := ha.cells
    have a0 := qa.c0
    have a1 := qa.c1
    have a2 := qa.c2
    have a3 := qa.c3
    have a4 := qa.c4
    have a5 := qa.c5
    have a6 := qa.c6
    have a7 := qa.c7
    obtain ⟨⟨l1, l2⟩, _, _⟩ := HF6.out.a.cells
    obtain ⟨⟨l3, l4⟩, _, _⟩ := HF6.out.b.cells
    obtain ⟨⟨l5, l6⟩, _, _⟩ := HF6.out.c.cells
    obtain ⟨⟨l7, l8⟩, _, _⟩ := HF6.out.d.cells
    have hev0 := fun W => run_eql_frac V.1.x.n V.1.x.d V.1.x.n V.1.x.d W
    simp only [and_self, decide_true] at hev0
    have hev1 := fun W => run_eql_frac V.1.y.n V.1.y.d V.1.y.n V.1.y.d W
    simp only [and_self, decide_true] at hev1
    have hev2 := fun W => run_eql_frac V.1.r.n V.1.r.d V.1.r.n V.1.r.d W
    simp only [and_self, decide_true] at hev2
    have hev3 := fun W => run_eql_frac V.1.l.n V.1.l.d V.1.l.n V.1.l.d W
    simp only [and_self, decide_true] at hev3
    clear hw6 hb8 ha hx6 qa HF4 HX5 HE1 HE2 HCP
    go_wp2_with (first | (go_at_call 11; refine (HWK.out _).mono ?_; rintro e w7 ⟨rfl, hb7⟩; have HB7 := hid (bnext0 HB6.out hb7); clear hb7))
    go_ret
    exact ⟨rfl, HB7.out⟩
end Go.Proofs.Ytfkcpcdndleboaa
