/- WALK: the law CopiesJoins. -/
import Derived.Test.YtoljnbbhoeloeaaLinR
import Derived.Test.YtoljnbbhoeloeaaWorksW
namespace Go.Proofs.Ytoljnbbhoeloeaa
open Go.RowKit
theorem prm_el {fit : Nat → Nat → Bool} {N : Nat} : ∀ (f : Nat) (l : List Nat), ∀ x ∈ prm fit N f l, x.length = l.length + f
  | 0, l, x, h => by
    rw [prm, List.mem_singleton] at h
    rw [h]; rfl
  | f + 1, l, x, h => by
    rw [prm, List.mem_flatMap] at h
    obtain ⟨b, _, h⟩ := h
    split at h
    · have := prm_el f _ x h
      simp at this
      omega
    · cases h
theorem join_small {bs : List Bk} {k : Int} {es : List Ln} (h : sig es = (joinRows bs k).map nz) : es.length ≤ 1000000 ∧ ∀ t ∈ es, t.2.2.length ≤ 1000000 := by
  have hl : es.length = (joinRows bs k).length := by have := congrArg List.length h; simpa [sig] using this
  have hz : (joinRows bs k).length ≤ 64 ∧ ∀ x ∈ joinRows bs k, x.length ≤ 8 := by
    by_cases h0 : joinErr bs k = 0
    · have e : joinRows bs k = (allRows bs).take k.toNat := if_pos h0
      unfold joinErr at h0
      split at h0
      · rename_i h1; exact absurd h0 h1
      · rename_i h1
        split at h0
        · cases h0
        · rename_i h2
          have hn8 := (blks_ok (bs := bs) (by simpa using h1)).1
          rw [e]
          refine ⟨by rw [List.length_take]; omega, fun x hx => ?_⟩
          have := prm_el _ _ x (List.mem_of_mem_take hx)
          simp at this
          omega
    · have e : joinRows bs k = [] := if_neg h0
      rw [e]
      exact ⟨by simp, fun x hx => by cases hx⟩
  refine ⟨by omega, fun t ht => ?_⟩
  have hm : t.2.2 ∈ sig es := List.mem_map.2 ⟨t, ht, rfl⟩
  rw [h, List.mem_map] at hm
  obtain ⟨x, hx, e⟩ := hm
  have := hz.2 x hx
  rw [← e, nz_len]
  omega
theorem lin_small {bs : List Bk} {row : List Int} {es : List Ln} (hr : row.length ≤ 100) (h : sig es = linOut bs row) : es.length ≤ 1000000 ∧ ∀ t ∈ es, t.2.2.length ≤ 1000000 := by
  have hl : es.length = (linOut bs row).length := by have := congrArg List.length h; simpa [sig] using this
  have hz : (linOut bs row).length ≤ 12 ∧ ∀ x ∈ linOut bs row, x.length ≤ 6000 := by
    by_cases h0 : linErr bs row = 0
    · have e : linOut bs row = (List.range (rows0 bs)).map fun r => catTo bs row r row.length := if_pos h0
      have hb : blksErr bs = 0 := by
        unfold linErr at h0
        split at h0
        · rename_i h1; exact absurd h0 h1
        · rename_i h1; simpa using h1
      have hr0 : rows0 bs ≤ 12 := by
        cases bs with
        | nil => exact Nat.zero_le _
        | cons b bs => exact (blks_rows hb (List.mem_cons_self ..)).2.1
      rw [e]
      refine ⟨by simpa using hr0, fun x hx => ?_⟩
      obtain ⟨r, _, rfl⟩ := List.mem_map.1 hx
      have := catTo_len hb row r row.length
      omega
    · have e : linOut bs row = [] := if_neg h0
      rw [e]
      exact ⟨by simp, fun x hx => by cases hx⟩
  refine ⟨by omega, fun t ht => ?_⟩
  have hm : t.2.2 ∈ sig es := List.mem_map.2 ⟨t, ht, rfl⟩
  rw [h] at hm
  have := hz.2 _ hm
  omega
set_option maxRecDepth 100000 in
set_option maxHeartbeats 2000000 in
theorem joins_law (bs : List Bk) (k : Int) (row : List Int) (A Ar : Option Addr) (c cr : Nat) (hcr : row.length ≤ cr) (w : World) (r : Bks w w.heap.size A bs) (rr : Rd w w.heap.size Ar row) :
    Calls Try.prog 15 #[.slice A bs.length c, .int .i64 k, .slice Ar row.length cr] w fun e w' => e = .returned (.bool true) ∧ Below w.heap.size w w' := by
  by_cases h100 : row.length ≤ 100
  · have hd : decide ((100 : Int) < (row.length : Int)) = false := decide_eq_false (by omega)
    have R := fun W (hb : Below w.heap.size w W) => (r.below hb).more hb.size
    have RR := fun W (hb : Below w.heap.size w W) => (rr.below hb).more hb.size
    have J1 := hid fun W hb => join_any bs k A c W (R W hb)
    have J2 := hid fun W hb => ref_join_any bs k A c W (R W hb)
    have L1 := hid fun W hb => lines_any bs row A Ar c cr h100 hcr W (R W hb) (RR W hb)
    have L2 := hid fun W hb => ref_lines_any bs row A Ar c cr h100 hcr W (R W hb) (RR W hb)
    have S1 := hid fun (es : List Ln) h => join_small (bs := bs) (k := k) (es := es) h
    have S2 := hid fun (es : List Ln) h => lin_small (bs := bs) (row := row) (es := es) h100 h
    clear R RR r rr hcr h100
    unfold JoinIs at J1 J2
    unfold LinIs at L1 L2
    generalize joinErr bs k = je at *
    generalize linErr bs row = le at *
    generalize (joinRows bs k).map nz = jr at *
    generalize linOut bs row = lr at *
    generalize bs.length = N at *
    generalize row.length = n at *
    have fin : Hid (∀ W W', Below w.heap.size w W → Below W.heap.size W W' → Below w.heap.size w W') := fun W W' h h' => h.trans (h'.mono h.size)
    have H0 : Hid (Below w.heap.size w w) := Below.refl _ _
    go_enter Try.func15, Try.ntmps15
    go_wp2_with (first | (go_at_call 40; refine (J1.out _ H0.out).mono ?_; rintro e w1 ⟨A1, c1, es1, rfl, l1, s1, b1⟩; have H1 := hid (fin.out _ _ H0.out b1); have K1 := hid (And.intro l1 s1); clear b1 l1 s1 J1) | (go_at_call 43; refine (J2.out _ H1.out).mono ?_; rintro e w2 ⟨A2, c2, es2, rfl, l2, s2, b2⟩; have H2 := hid (fin.out _ _ H1.out b2); have K2 := hid (And.intro (K1.out.1.below b2) (And.intro (l2.more (Nat.le_refl _)) (K1.out.2.trans s2.symm))); have T2 := hid (And.intro b2 (S1.out _ K1.out.2)); clear b2 l2 s2 J2) | (go_at_call 44; refine (sameLists_any es1 es2 A1 A2 c1 c2 K2.out.2.2 T2.out.2.1 T2.out.2.2 w2 w2.heap.size (K2.out.1.more T2.out.1.size) K2.out.2.1).mono ?_; rintro e w3 ⟨rfl, q3, rfl⟩; have H3 := hid (below_drewN H2.out q3); clear K1 K2 T2 S1))
    refine (L1.out _ H3.out).mono ?_
    rintro e w4 ⟨A4, c4, es4, rfl, l4, s4, b4⟩
    have H4 := hid (fin.out _ _ H3.out b4)
    have K4 := hid (And.intro l4 s4)
    clear b4 l4 s4 L1
    go_wp2_with (first | (go_at_call 46; refine (L2.out _ H4.out).mono ?_; rintro e w5 ⟨A5, c5, es5, rfl, l5, s5, b5⟩; have H5 := hid (fin.out _ _ H4.out b5); have K5 := hid (And.intro (K4.out.1.below b5) (And.intro (l5.more (Nat.le_refl _)) (K4.out.2.trans s5.symm))); have T5 := hid (And.intro b5 (S2.out _ K4.out.2)); clear b5 l5 s5 L2) | (go_at_call 44; refine (sameLists_any es4 es5 A4 A5 c4 c5 K5.out.2.2 T5.out.2.1 T5.out.2.2 w5 w5.heap.size (K5.out.1.more T5.out.1.size) K5.out.2.1).mono ?_; rintro e w6 ⟨rfl, q6, rfl⟩; have H6 := hid (below_drewN H5.out q6); clear K4 K5 T5 S2))
    refine (works_any _).mono ?_
    rintro e w7 ⟨rfl, hb7⟩
    have H7 := hid (fin.out _ _ H6.out hb7)
    clear hb7
    go_wp2_with fail
    go_ret
    exact ⟨rfl, H7.out⟩
  · have hd : decide ((100 : Int) < (row.length : Int)) = true := decide_eq_true (by omega)
    generalize bs.length = N at *
    generalize row.length = n at *
    clear r rr
    go_enter Try.func15, Try.ntmps15
    go_wp2_with fail
    refine (works_any _).mono ?_
    rintro e w7 ⟨rfl, hb7⟩
    have H7 := hid hb7
    clear hb7
    go_wp2_with fail
    go_ret
    exact ⟨rfl, H7.out⟩
end Go.Proofs.Ytoljnbbhoeloeaa
