/- WALK: the law CopiesApplies. -/
import Derived.Test.YtoljnbbhoeloeaaApplyR
import Derived.Test.YtoljnbbhoeloeaaExtR
import Derived.Test.YtoljnbbhoeloeaaWorksW
namespace Go.Proofs.Ytoljnbbhoeloeaa
open Go.RowKit
theorem rd_own {w : World} {base n c : Nat} {A : Option Addr} {l : List Int} (h : w.ownsRow base 3 1 (.slice A n c) n (ints l)) (hn : n = l.length) : Rd w w.heap.size A l := by
  subst hn; exact Reads.of_own h
theorem apF_len (a : List Int) : ∀ (l : List (Item × Bool)) (i : Nat), (∀ x ∈ l, x.1.2.2.length ≤ 120) → a.length ≤ 60 → (apF a l i).length ≤ 60 + 200 * l.length
  | [], i, _, ha => by rw [apF]; simp; omega
  | (x, c) :: r, i, hx, ha => by
    have h1 := hx (x, c) (by simp)
    have h2 := apF_len a r (x.1 + x.2.1) (fun y hy => hx y (by simp [hy])) ha
    have h3 := apF_len a r i (fun y hy => hx y (by simp [hy])) ha
    simp only at h1
    rw [apF]
    split
    · simp only [List.length_append, List.length_take, List.length_drop, List.length_cons]; omega
    · simp only [List.length_cons]; omega
theorem apV_len (a b : List Int) (ch : List Bool) : (apV a b ch).1.length ≤ 100000 := by
  unfold apV
  split
  · rename_i h
    obtain ⟨ha, hb⟩ := two_ok h
    split
    · have h1 := apF_len a ((strs a b).zip ch) 0 (fun x hx => by
        obtain ⟨x1, x2⟩ := x
        have := strs_sg' a b x1 (List.of_mem_zip hx).1
        simp only; omega) ha
      have h2 := (strs_bd a b).1
      simp only [List.length_zip] at h1
      simp only
      omega
    · simp
  · simp
set_option maxRecDepth 100000 in
set_option maxHeartbeats 2000000 in
theorem applies_any (a b : List Int) (at_ : Int) (ch : List Bool) (Aa Ab Ac : Option Addr) (ca cb cc : Nat) (hnil : Aa = none → ca = 0) (hcap : a.length ≤ ca) (w : World) (ra : Rd w w.heap.size Aa a) (rb : Rd w w.heap.size Ab b) (rc : Rb w w.heap.size Ac ch) :
    Calls Try.prog 8 #[.slice Aa a.length ca, .slice Ab b.length cb, .agg #[.int .i64 at_, .slice Ac ch.length cc]] w fun e w' => e = .returned (.bool true) ∧ Below w.heap.size w w' := by
  have h1 := fun W (r1 : Rd W W.heap.size Aa a) (r2 : Rd W W.heap.size Ab b) => extent_any a b at_ Aa Ab ca cb W r1 r2
  have h2 := fun W (r1 : Rd W W.heap.size Aa a) (r2 : Rd W W.heap.size Ab b) => ref_extent_any a b at_ Aa Ab ca cb W r1 r2
  have h3 := fun W (r1 : Rd W W.heap.size Aa a) (r2 : Rd W W.heap.size Ab b) (r3 : Rb W W.heap.size Ac ch) => apply_any a b ch Aa Ab Ac ca cb cc hnil hcap W r1 r2 r3
  have h4 := fun W (r1 : Rd W W.heap.size Aa a) (r2 : Rd W W.heap.size Ab b) (r3 : Rb W W.heap.size Ac ch) => ref_apply_any a b ch Aa Ab Ac ca cb cc hnil hcap W r1 r2 r3
  have hl := apV_len a b ch
  generalize (extV a b at_).1 = p at h1 h2
  generalize (extV a b at_).2 = q at h1 h2
  generalize (apV a b ch).1 = o at h3 h4 hl
  generalize (apV a b ch).2 = r at h3 h4
  have H1 := hid h1; have H2 := hid h2; have H3 := hid h3; have H4 := hid h4; have Hl := hid hl; have Ra := hid ra; have Rbb := hid rb; have Rc := hid rc
  clear h1 h2 h3 h4 hl ra rb rc hnil hcap
  go_enter Try.func8, Try.ntmps8
  have fin : Hid (∀ W W', Below w.heap.size w W → Below W.heap.size W W' → Below w.heap.size w W') := fun W W' h h' => h.trans (h'.mono h.size)
  have hbx := (Below.refl w.heap.size w).alloc (Nat.le_refl _) (.cells #[.int .i64 at_, .slice Ac ch.length cc] 57)
  have HBX := hid hbx
  clear hbx
  go_wp2_with fail
  refine (H1.out _ ((Ra.out.below HBX.out).more HBX.out.size) ((Rbb.out.below HBX.out).more HBX.out.size)).mono ?_
  rintro e w1 ⟨rfl, hb1⟩
  have hz := hb1.size
  simp at hz
  have c0 : w1.cell? ⟨w.heap.size, 0, none⟩ = some (.int .i64 at_) := by rw [(bcell hb1).1 _ _ (by simp)]; simp [go_sem]
  have c1 : w1.cell? ⟨w.heap.size, 1, none⟩ = some (.slice Ac ch.length cc) := by rw [(bcell hb1).1 _ _ (by simp)]; simp [go_sem]
  have z1 : w.heap.size < w1.heap.size := by omega
  have HB1 := hid (fin.out _ _ HBX.out hb1)
  clear hb1 hz HBX
  go_wp2_with fail
  refine (H2.out _ ((Ra.out.below HB1.out).more HB1.out.size) ((Rbb.out.below HB1.out).more HB1.out.size)).mono ?_
  rintro e w2 ⟨rfl, hb2⟩
  have hz := hb2.size
  rw [← (bcell hb2).1 _ _ z1] at c0 c1
  have z2 : w.heap.size < w2.heap.size := by omega
  have HB2 := hid (fin.out _ _ HB1.out hb2)
  clear hb2 hz z1 HB1
  go_wp2_with fail
  refine (H3.out _ ((Ra.out.below HB2.out).more HB2.out.size) ((Rbb.out.below HB2.out).more HB2.out.size) ((Rc.out.below HB2.out).more HB2.out.size)).mono ?_
  rintro e w3 ⟨v3, rfl, hown3, hb3⟩
  have hz := hb3.size
  rw [← (bcell hb3).1 _ _ z2] at c0 c1
  have z3 : w.heap.size < w3.heap.size := by omega
  have HB3 := hid (fin.out _ _ HB2.out hb3)
  have Hown3 := hid hown3
  clear hb3 hz z2 HB2 hown3
  go_wp2_with fail
  refine (H4.out _ ((Ra.out.below HB3.out).more HB3.out.size) ((Rbb.out.below HB3.out).more HB3.out.size) ((Rc.out.below HB3.out).more HB3.out.size)).mono ?_
  rintro e w4 ⟨v4, rfl, hown4, hb4⟩
  have hown3 := own_below Hown3.out hb4
  obtain ⟨A3, c3, rfl⟩ := own_slice hown3
  obtain ⟨A4, c4, rfl⟩ := own_slice hown4
  have hsm := same_any o o A3 A4 c3 c4 (by have := Hl.out; omega) w4 w4.heap.size (rd_own hown3 rfl) (rd_own hown4 rfl)
  simp only [decide_true] at hsm
  have Hsm := hid hsm
  have HB4 := hid (fin.out _ _ HB3.out hb4)
  clear hb4 HB3 hown3 hown4 hsm Hown3 z3 c0 c1
  go_wp2_with (go_at_call 19; refine Hsm.out.mono ?_; rintro e w5 ⟨rfl, n5, rfl⟩)
  refine (works_any _).mono ?_
  rintro e w6 ⟨rfl, hb6⟩
  have Hb6 := hid hb6; clear hb6
  go_wp2_with fail
  go_ret
  exact ⟨rfl, fin.out _ _ (below_drewN HB4.out _) Hb6.out⟩
end Go.Proofs.Ytoljnbbhoeloeaa
