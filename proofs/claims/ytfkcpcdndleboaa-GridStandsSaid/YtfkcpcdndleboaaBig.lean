/- The sizes of papers: ostraconlaw01.Big, Large, ostraconlaw02.Big. -/
import Derived.Test.YtfkcpcdndleboaaSameT
import Derived.Test.YtfkcpcdndleboaaCopy
namespace Go.Proofs.Ytfkcpcdndleboaa
open Go.RowKit
def bigS (s : Sg) : Prop := 20 < s.vals.length ∨ 100 < s.code.size ∨ ∃ v ∈ s.vals, 100 < v.text.size
def BigL (ss : List Sg) : Prop := 210 < ss.length ∨ ∃ s ∈ ss, bigS s
def LargeL (ss : List Sg) : Prop := BigL ss ∨ 30 < ss.length
def BigP (ss : List Sg) (l : List Nd) : Prop := LargeL ss ∨ 210 < l.length
theorem all_next {α : Type} {l : List α} {p : α → Prop} {k : Nat} (hk : k < l.length) (h : ∀ x ∈ l.take k, p x) (h2 : p l[k]) : ∀ x ∈ l.take (k + 1), p x := fun x hx => by
  rw [List.take_add_one, List.getElem?_eq_getElem hk] at hx
  rcases List.mem_append.1 hx with hx | hx
  · exact h x hx
  · simp at hx
    rw [hx]; exact h2
set_option maxRecDepth 100000 in
set_option maxHeartbeats 4000000 in
theorem bigL_any (P : Int) (ss : List Sg) (A : Option Addr) (c : Nat) (hl : ss.length ≤ 9223372036854775807) (hv : ∀ s ∈ ss, s.vals.length ≤ 9223372036854775807) (w : World) (r : Sgs w w.heap.size A ss) :
    Calls Try.prog 76 #[.agg #[.int .i64 P, .slice A ss.length c]] w (BoolIs (BigL ss) w) := by
  obtain ⟨n, hn⟩ : ∃ n, n = ss.length := ⟨_, rfl⟩
  obtain ⟨w1, hw1⟩ : ∃ w1, w1 = w.alloc (.cells #[.int .i64 P, .slice A n c] 24) := ⟨_, rfl⟩
  have hb1 : Below w.heap.size w w1 := by rw [hw1]; exact (Below.refl _ _).alloc (Nat.le_refl _) _
  have c1 : w1.cell? ⟨w.heap.size, 1, none⟩ = some (.slice A n c) := by rw [hw1]; exact cell_here rfl rfl
  have HM : Hid (BigL ss ↔ 210 < n ∨ ∃ s ∈ ss, bigS s) := by rw [hn]; exact hid Iff.rfl
  have HR := hid (r.below hb1); have HW1 := hid hw1; have HB1 := hid hb1; have HV := hid hv
  rw [← hn] at hl ⊢
  have HN := hid hn
  clear hw1 hb1 r hn hv
  go_enter Try.func76, Try.ntmps76
  go_upto_region 1 with (fail)
  rw [← HW1.out]
  obtain ⟨B0, hB0⟩ : ∃ B0, B0 = w.heap.size := ⟨_, rfl⟩
  rw [← hB0] at c1 HR ⊢
  clear hB0 HW1
  by_cases h210 : 210 < n
  · have f1 : decide ((210 : Int) < (n : Int)) = true := decide_eq_true (by omega)
    have HX := hid (HM.out.2 (.inl h210))
    clear h210
    go_wp2_with fail
    go_ret
    exact ⟨⟨_, rfl, iff_of_true (by simp) HX.out⟩, HB1.out⟩
  · have f1 : decide ((210 : Int) < (n : Int)) = false := decide_eq_false (by omega)
    go_wp2_with fail
    go_loopw [3] (fun kv wr => ∃ k : Nat, k ≤ n ∧ kv = .int .i64 k ∧ Hid (∀ s ∈ ss.take k, ¬ bigS s) ∧ w1 = wr) (fun kv _ => n - (intOf kv).toNat)
    case atStart => exact ⟨0, by omega, rfl, hid (fun s hs => by simp at hs), rfl⟩
    case round =>
      obtain ⟨k, hk, rfl, hP, rfl⟩ := hrel
      by_cases hkn : k < n
      · have hkl : k < ss.length := by rw [← HN.out]; exact hkn
        have hq : (k : Int) < (n : Int) := by omega
        obtain ⟨b, o, rfl, hb, hc⟩ := HR.out.at (by omega)
        have hx := hc k hkl
        have hmem : ss[k]'hkl ∈ ss := List.getElem_mem hkl
        have hvl := HR.out.vls _ hmem
        have hvv := HV.out _ hmem
        have hyes : bigS (ss[k]'hkl) → BigL ss := fun h => HM.out.2 (.inr ⟨_, hmem, h⟩)
        have hno : ¬ bigS (ss[k]'hkl) → ∀ s ∈ ss.take (k + 1), ¬ bigS s := fun h => all_next hkl hP.out h
        generalize ss[k]'hkl = s at hx hvl hvv hyes hno
        obtain ⟨co, wi, hi, ev, vs, va, vc⟩ := s
        have d1 := hx.code; have d5 := hx.vals
        simp only [] at d1 d5 hvl hvv
        obtain ⟨nv, hnv⟩ : ∃ nv, nv = vs.length := ⟨_, rfl⟩
        rw [← hnv] at d5 hvv
        have hy1 : 20 < nv → BigL ss := fun h => hyes (.inl (by show 20 < vs.length; omega))
        have hy2 : 100 < co.size → BigL ss := fun h => hyes (.inr (.inl h))
        have hy3 : ∀ v ∈ vs, 100 < v.text.size → BigL ss := fun v hv h => hyes (.inr (.inr ⟨v, hv, h⟩))
        have hn1 : ¬ 20 < nv → ¬ 100 < co.size → (∀ v ∈ vs, ¬ 100 < v.text.size) → ∀ s ∈ ss.take (k + 1), ¬ bigS s := fun h1 h2 h3 => hno fun h => by
          rcases h with h | h | ⟨v, hv, h⟩
          · exact h1 (by rw [hnv]; exact h)
          · exact h2 h
          · exact h3 v hv h
        have HY1 := hid hy1; have HY2 := hid hy2; have HY3 := hid hy3; have HN1 := hid hn1; have HNV := hid hnv; have HVL := hid hvl
        clear hx hc hmem hvl hyes hno hy1 hy2 hy3 hn1 hnv hP
        by_cases h20 : 20 < nv
        · have f2 : decide ((20 : Int) < (nv : Int)) = true := decide_eq_true (by omega)
          have HX := hid (HY1.out h20)
          clear h20
          go_wp2_with fail
          go_ret
          exact ⟨⟨_, rfl, iff_of_true (by simp) HX.out⟩, HB1.out⟩
        · have f2 : decide ((20 : Int) < (nv : Int)) = false := decide_eq_false (by omega)
          by_cases h100 : 100 < co.size
          · have f3 : decide ((100 : Int) < (co.size : Int)) = true := decide_eq_true (by omega)
            have HX := hid (HY2.out h100)
            clear h100
            go_wp2_with fail
            go_ret
            exact ⟨⟨_, rfl, iff_of_true (by simp) HX.out⟩, HB1.out⟩
          · have f3 : decide ((100 : Int) < (co.size : Int)) = false := decide_eq_false (by omega)
            replace HN1 := hid (HN1.out h20 h100)
            clear HY1 HY2 h100
            go_wp2_with fail
            go_loopw [4] (fun jv wi => ∃ j : Nat, j ≤ nv ∧ jv = .int .i64 j ∧ Hid (∀ v ∈ vs.take j, ¬ 100 < v.text.size) ∧ w1 = wi) (fun jv _ => nv - (intOf jv).toNat)
            case atStart => exact ⟨0, by omega, rfl, hid (fun s hs => by simp at hs), rfl⟩
            case round =>
              obtain ⟨j, hj, rfl, hP, rfl⟩ := hrel
              by_cases hjn : j < nv
              · have hjl : j < vs.length := by rw [← HNV.out]; exact hjn
                have hqj : (j : Int) < (nv : Int) := by omega
                obtain ⟨b2, o2, rfl, hb2, hc2⟩ := HVL.out.at (by omega)
                have hx := hc2 j hjl
                have hyes := HY3.out _ (List.getElem_mem hjl)
                have hno : ¬ 100 < (vs[j]'hjl).text.size → _ := fun h => all_next (p := fun v : Vl => ¬ 100 < v.text.size) hjl hP.out h
                generalize vs[j]'hjl = v at hx hyes hno
                have e2 := hx.text
                generalize v.text = tx at e2 hyes hno
                have HYY := hid hyes; have HNN := hid hno
                clear hx hc2 hyes hno hP
                by_cases ht : 100 < tx.size
                · have f4 : decide ((100 : Int) < (tx.size : Int)) = true := decide_eq_true (by omega)
                  have HX := hid (HYY.out ht)
                  clear ht
                  go_wp2_with fail
                  go_ret
                  exact ⟨⟨_, rfl, iff_of_true (by simp) HX.out⟩, HB1.out⟩
                · have f4 : decide ((100 : Int) < (tx.size : Int)) = false := decide_eq_false (by omega)
                  have HX := hid (HNN.out ht)
                  clear ht
                  go_wp2_with fail
                  go_roundw
                  case rel => exact ⟨j + 1, by omega, by go_num, HX.out, by first | exact rfl | trivial⟩
                  case measure => simp [intOf]; omega
              · obtain rfl : nv = j := by omega
                have HX := hid (HN1.out fun v hv => hP.out v (by rw [HNV.out, List.take_length]; exact hv))
                clear hP
                go_wp2_with fail
                go_roundw
                case rel => exact ⟨k + 1, by omega, by go_num, HX.out, by first | exact rfl | trivial⟩
                case measure => simp [intOf]; omega
      · obtain rfl : n = k := by omega
        have HX : Hid (¬ BigL ss) := fun h => by
          rcases HM.out.1 h with h | ⟨s, hs, h⟩
          · exact h210 h
          · exact hP.out s (by rw [HN.out, List.take_length]; exact hs) h
        clear hP
        go_wp2_with fail
        go_ret
        exact ⟨⟨_, rfl, iff_of_false (by simp) HX.out⟩, HB1.out⟩
set_option maxRecDepth 100000 in
set_option maxHeartbeats 1000000 in
theorem largeL_any (P : Int) (ss : List Sg) (A : Option Addr) (c : Nat) (hl : ss.length ≤ 9223372036854775807) (hv : ∀ s ∈ ss, s.vals.length ≤ 9223372036854775807) (w : World) (r : Sgs w w.heap.size A ss) :
    Calls Try.prog 43 #[.agg #[.int .i64 P, .slice A ss.length c]] w (BoolIs (LargeL ss) w) := by
  obtain ⟨w1, hw1⟩ : ∃ w1, w1 = w.alloc (.cells #[.int .i64 P, .slice A ss.length c] 24) := ⟨_, rfl⟩
  have hb1 : Below w.heap.size w w1 := by rw [hw1]; exact (Below.refl _ _).alloc (Nat.le_refl _) _
  have hz1 : w.heap.size < w1.heap.size := by rw [hw1]; simp
  have c0 : w1.cell? ⟨w.heap.size, 0, none⟩ = some (.int .i64 P) := by rw [hw1]; exact cell_here rfl rfl
  have c1 : w1.cell? ⟨w.heap.size, 1, none⟩ = some (.slice A ss.length c) := by rw [hw1]; exact cell_here rfl rfl
  obtain ⟨r1, hr1⟩ : ∃ x : Bool, (x = true ↔ BigL ss) := by
    by_cases h : BigL ss
    · exact ⟨true, iff_of_true rfl h⟩
    · exact ⟨false, iff_of_false (by simp) h⟩
  have hc := (bigL_any P ss A c hl hv w1 ((r.below hb1).more (by omega))).mono fun e w' hb => hb.get hr1
  obtain ⟨n, hn⟩ : ∃ n, n = ss.length := ⟨_, rfl⟩
  have hL : LargeL ss ↔ r1 = true ∨ 30 < n := by unfold LargeL; rw [hr1, hn]
  rw [← hn] at hl c1 hw1 hc ⊢
  have HC := hid hc; have HL := hid hL; have HB1 := hid hb1; have HW1 := hid hw1
  clear hc hL hb1 hw1 hn r hv hr1
  go_enter Try.func43, Try.ntmps43
  go_upto_region 1 with (fail)
  rw [← HW1.out]
  obtain ⟨B0, hB0⟩ : ∃ B0, B0 = w.heap.size := ⟨_, rfl⟩
  rw [← hB0] at c0 c1 hz1 ⊢
  clear hB0 HW1
  cases r1 with
  | true =>
    have HX : Hid (LargeL ss) := HL.out.2 (.inl rfl)
    go_wp2_with (first | (go_at_call 76; refine HC.out.mono ?_; rintro e w2 ⟨rfl, hb2⟩; have HB2 := hid (HB1.out.trans (hb2.mono HB1.out.size)); clear hb2))
    go_ret
    exact ⟨⟨_, rfl, iff_of_true (by simp) HX.out⟩, HB2.out⟩
  | false =>
    by_cases h30 : 30 < n
    · have HX : Hid (LargeL ss) := HL.out.2 (.inr h30)
      have f1 : decide ((30 : Int) < (n : Int)) = true := decide_eq_true (by omega)
      clear h30
      go_wp2_with (first | (go_at_call 76; refine HC.out.mono ?_; rintro e w2 ⟨rfl, hb2⟩; have p1 := (hb2.cell (p := ⟨B0, 1, none⟩) hz1).trans c1; have HB2 := hid (HB1.out.trans (hb2.mono HB1.out.size)); clear hb2 c0 c1))
      go_ret
      exact ⟨⟨_, rfl, iff_of_true (by simp) HX.out⟩, HB2.out⟩
    · have HX : Hid (¬ LargeL ss) := fun h => by
        rcases HL.out.1 h with h | h
        · cases h
        · exact h30 h
      have f1 : decide ((30 : Int) < (n : Int)) = false := decide_eq_false (by omega)
      clear h30
      go_wp2_with (first | (go_at_call 76; refine HC.out.mono ?_; rintro e w2 ⟨rfl, hb2⟩; have p1 := (hb2.cell (p := ⟨B0, 1, none⟩) hz1).trans c1; have HB2 := hid (HB1.out.trans (hb2.mono HB1.out.size)); clear hb2 c0 c1))
      go_ret
      exact ⟨⟨_, rfl, iff_of_false (by simp) HX.out⟩, HB2.out⟩
set_option maxRecDepth 100000 in
set_option maxHeartbeats 1000000 in
theorem bigP_any (P : Int) (ss : List Sg) (l : List Nd) (A A2 : Option Addr) (c c2 : Nat) (hl : ss.length ≤ 9223372036854775807) (hv : ∀ s ∈ ss, s.vals.length ≤ 9223372036854775807) (w : World) (r : Sgs w w.heap.size A ss) :
    Calls Try.prog 10 #[.agg #[.int .i64 P, .slice A ss.length c, .slice A2 l.length c2]] w (BoolIs (BigP ss l) w) := by
  obtain ⟨w1, hw1⟩ : ∃ w1, w1 = w.alloc (.cells #[.int .i64 P, .slice A ss.length c, .slice A2 l.length c2] 29) := ⟨_, rfl⟩
  have hb1 : Below w.heap.size w w1 := by rw [hw1]; exact (Below.refl _ _).alloc (Nat.le_refl _) _
  have hz1 : w.heap.size < w1.heap.size := by rw [hw1]; simp
  have c0 : w1.cell? ⟨w.heap.size, 0, none⟩ = some (.int .i64 P) := by rw [hw1]; exact cell_here rfl rfl
  have c1 : w1.cell? ⟨w.heap.size, 1, none⟩ = some (.slice A ss.length c) := by rw [hw1]; exact cell_here rfl rfl
  have c3 : w1.cell? ⟨w.heap.size, 2, none⟩ = some (.slice A2 l.length c2) := by rw [hw1]; exact cell_here rfl rfl
  obtain ⟨r1, hr1⟩ : ∃ x : Bool, (x = true ↔ LargeL ss) := by
    by_cases h : LargeL ss
    · exact ⟨true, iff_of_true rfl h⟩
    · exact ⟨false, iff_of_false (by simp) h⟩
  have hc := (largeL_any P ss A c hl hv w1 ((r.below hb1).more (by omega))).mono fun e w' hb => hb.get hr1
  obtain ⟨n, hn⟩ : ∃ n, n = l.length := ⟨_, rfl⟩
  have hL : BigP ss l ↔ r1 = true ∨ 210 < n := by unfold BigP; rw [hr1, hn]
  rw [← hn] at c3 hw1 ⊢
  generalize ss.length = N at *
  have HC := hid hc; have HL := hid hL; have HB1 := hid hb1; have HW1 := hid hw1
  clear hc hL hb1 hw1 hn r hv hr1
  go_enter Try.func10, Try.ntmps10
  go_upto_region 1 with (fail)
  rw [← HW1.out]
  obtain ⟨B0, hB0⟩ : ∃ B0, B0 = w.heap.size := ⟨_, rfl⟩
  rw [← hB0] at c0 c1 c3 hz1 ⊢
  clear hB0 HW1
  cases r1 with
  | true =>
    have HX : Hid (BigP ss l) := HL.out.2 (.inl rfl)
    go_wp2_with (first | (go_at_call 43; refine HC.out.mono ?_; rintro e w2 ⟨rfl, hb2⟩; have HB2 := hid (HB1.out.trans (hb2.mono HB1.out.size)); clear hb2))
    go_ret
    exact ⟨⟨_, rfl, iff_of_true (by simp) HX.out⟩, HB2.out⟩
  | false =>
    by_cases h30 : 210 < n
    · have HX : Hid (BigP ss l) := HL.out.2 (.inr h30)
      have f1 : decide ((210 : Int) < (n : Int)) = true := decide_eq_true (by omega)
      clear h30
      go_wp2_with (first | (go_at_call 43; refine HC.out.mono ?_; rintro e w2 ⟨rfl, hb2⟩; have p1 := (hb2.cell (p := ⟨B0, 2, none⟩) hz1).trans c3; have HB2 := hid (HB1.out.trans (hb2.mono HB1.out.size)); clear hb2 c0 c1 c3))
      go_ret
      exact ⟨⟨_, rfl, iff_of_true (by simp) HX.out⟩, HB2.out⟩
    · have HX : Hid (¬ BigP ss l) := fun h => by
        rcases HL.out.1 h with h | h
        · cases h
        · exact h30 h
      have f1 : decide ((210 : Int) < (n : Int)) = false := decide_eq_false (by omega)
      clear h30
      go_wp2_with (first | (go_at_call 43; refine HC.out.mono ?_; rintro e w2 ⟨rfl, hb2⟩; have p1 := (hb2.cell (p := ⟨B0, 2, none⟩) hz1).trans c3; have HB2 := hid (HB1.out.trans (hb2.mono HB1.out.size)); clear hb2 c0 c1 c3))
      go_ret
      exact ⟨⟨_, rfl, iff_of_false (by simp) HX.out⟩, HB2.out⟩
end Go.Proofs.Ytfkcpcdndleboaa
