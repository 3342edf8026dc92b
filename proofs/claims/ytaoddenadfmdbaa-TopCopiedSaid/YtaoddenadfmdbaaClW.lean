/- WALK: cells in memory; wall.within, rising, right. -/
import Derived.Test.YtaoddenadfmdbaaAccL
import Derived.Test.YtaoddenadfmdbaaBaseC
import Derived.Outline
namespace Go.Proofs.Ytaoddenadfmdbaa
open Go.RowKit
def Cl.cells (c : Cl) : List Value := [.int .i64 c.mn, .int .i64 c.mx, .slice c.sa c.signs.length c.sc]
def flatC (l : List Cl) : List Value := l.flatMap Cl.cells
theorem flatC_len (l : List Cl) : (flatC l).length = l.length * 3 := by
  unfold flatC
  induction l with
  | nil => rfl
  | cons a l ih => rw [List.flatMap_cons, List.length_append, ih, List.length_cons]; simp only [Cl.cells, List.length_cons, List.length_nil]; omega
theorem flatC_get : ∀ (l : List Cl) (k j : Nat) (hk : k < l.length), j < 3 → (flatC l)[k * 3 + j]? = (l[k].cells)[j]?
  | a :: l, 0, j, _, hj => by
    unfold flatC
    rw [List.flatMap_cons, Nat.zero_mul, Nat.zero_add, List.getElem?_append_left (by simpa [Cl.cells] using hj)]
    rfl
  | a :: l, k + 1, j, hk, hj => by
    have ih := flatC_get l k j (by simpa using hk) hj
    unfold flatC at ih ⊢
    rw [List.flatMap_cons, List.getElem?_append_right (by simp only [Cl.cells, List.length_cons, List.length_nil]; omega)]
    have e : (k + 1) * 3 + j - a.cells.length = k * 3 + j := by simp only [Cl.cells, List.length_cons, List.length_nil]; omega
    rw [e, ih]
    rfl
/-- Cells in memory, all in blocks below B. -/
structure Cls (w : World) (B : Nat) (A : Option Addr) (l : List Cl) : Prop where
  row : Reads w B 3 A l.length (flatC l)
  sgs : ∀ c ∈ l, Rd w B c.sa c.signs
theorem Cls.below {w w' : World} {B : Nat} {A : Option Addr} {l : List Cl} (h : Cls w B A l) (hb : Below B w w') : Cls w' B A l := ⟨Reads.below h.row hb, fun s hs => (h.sgs s hs).below hb⟩
theorem Cls.more {w : World} {B B' : Nat} {A : Option Addr} {l : List Cl} (h : Cls w B A l) (hb : B ≤ B') : Cls w B' A l := ⟨Reads.more h.row hb, fun s hs => (h.sgs s hs).more hb⟩
structure ClAt (w : World) (b o : Nat) (c : Cl) : Prop where
  mn : w.cell? ⟨b, o, none⟩ = some (.int .i64 c.mn)
  mx : w.cell? ⟨b, o + 1, none⟩ = some (.int .i64 c.mx)
  sg : w.cell? ⟨b, o + 2, none⟩ = some (.slice c.sa c.signs.length c.sc)
theorem Cls.at {w : World} {B : Nat} {A : Option Addr} {l : List Cl} (h : Cls w B A l) (hl : 0 < l.length) :
    ∃ b o, A = some ⟨b, o, none⟩ ∧ b < B ∧ ∀ k (hk : k < l.length), ClAt w b (o + k * 3) l[k] := by
  obtain ⟨b, o, rfl, hb, hc⟩ := Reads.at0 h.row hl (by rw [flatC_len]; omega)
  refine ⟨b, o, rfl, hb, fun k hk => ?_⟩
  have hx : ∀ j u, j < 3 → (l[k].cells)[j]? = some u → w.cell? ⟨b, o + k * 3 + j, none⟩ = some u := fun j u hj hu => by
    rw [Nat.add_assoc]
    exact hc _ u (by rw [flatC_get l k j hk hj]; exact hu)
  exact ⟨hx 0 _ (by decide) rfl, hx 1 _ (by decide) rfl, hx 2 _ (by decide) rfl⟩
theorem ClAt.below {w w' : World} {B b o : Nat} {c : Cl} (h : ClAt w b o c) (hb : Below B w w') (hB : b < B) : ClAt w' b o c :=
  ⟨(hb.cell (p := ⟨b, _, none⟩) hB).trans h.mn, (hb.cell (p := ⟨b, _, none⟩) hB).trans h.mx, (hb.cell (p := ⟨b, _, none⟩) hB).trans h.sg⟩
def inB (x lo hi : Int) : Bool := decide (lo ≤ x) && decide (x ≤ hi)
set_option maxRecDepth 100000 in
theorem within_any (x lo hi : Int) (w : World) : Calls Try.prog 24 #[.int .i64 x, .int .i64 lo, .int .i64 hi] w fun e w' => e = .returned (.bool (inB x lo hi)) ∧ w' = w := by
  by_cases h1 : lo ≤ x
  · have e1 : decide (lo ≤ x) = true := decide_eq_true h1
    have HX := hid (show inB x lo hi = decide (x ≤ hi) by unfold inB; rw [e1]; rfl)
    clear h1
    go_enter Try.func24, Try.ntmps24
    go_wp2_with fail
    go_ret
    exact ⟨by rw [HX.out]; rfl, rfl⟩
  · have e1 : decide (lo ≤ x) = false := decide_eq_false h1
    have HX := hid (show inB x lo hi = false by unfold inB; rw [e1]; rfl)
    clear h1
    go_enter Try.func24, Try.ntmps24
    go_wp2_with fail
    go_ret
    exact ⟨by rw [HX.out]; rfl, rfl⟩
/-- The number at a place of a rising list of numbers below n. -/
def risE (n : Int) (l : List Int) (i : Nat) : Bool := inB (nth l i) 0 (n - 1) && (decide (i = 0) || decide (nth l (i - 1) < nth l i))
def risB (n : Int) (l : List Int) : Bool := (List.range l.length).all (risE n l)
theorem risB_mem {n : Int} {l : List Int} (h : risB n l = true) : ∀ a ∈ l, 0 ≤ a ∧ a < n := by
  intro a ha
  obtain ⟨i, hi, rfl⟩ := List.getElem_of_mem ha
  have h1 := List.all_eq_true.1 h i (List.mem_range.2 hi)
  unfold risE inB at h1
  simp only [Bool.and_eq_true, decide_eq_true_eq] at h1
  have e : nth l i = l[i] := by unfold nth; simp [hi]
  rw [e] at h1
  omega
theorem risB_no {n : Int} {l : List Int} {i : Nat} (hi : i < l.length) (h : risE n l i = false) : risB n l = false := by
  rw [Bool.eq_false_iff]
  intro h2
  have := List.all_eq_true.1 h2 i (List.mem_range.2 hi)
  rw [h] at this
  cases this
theorem risB_yes {n : Int} {l : List Int} (h : ∀ i, i < l.length → risE n l i = true) : risB n l = true := List.all_eq_true.2 fun i hi => h i (List.mem_range.1 hi)
set_option maxRecDepth 100000 in
set_option maxHeartbeats 2000000 in
theorem rising_any (n : Int) (hn : 0 ≤ n ∧ n ≤ 1000000) (l : List Int) (A : Option Addr) (c : Nat) (hl : l.length ≤ 1000000) (w : World) (r : Rd w w.heap.size A l) :
    Calls Try.prog 66 #[.slice A l.length c, .int .i64 n] w fun e w' => e = .returned (.bool (risB n l)) ∧ Below w.heap.size w w' := by
  obtain ⟨m, hm⟩ : ∃ m, m = l.length := ⟨_, rfl⟩
  have HM := hid hm; have HR := hid r
  rw [← hm] at hl ⊢
  have hw : IntKind.i64.wrap (n - 1) = n - 1 := IntWalk.i64_in _ (by omega)
  clear hm r
  go_enter Try.func66, Try.ntmps66
  go_wp2_with fail
  go_loopw [9] (fun iv wr => ∃ i : Nat, i ≤ m ∧ iv = .int .i64 i ∧ Hid (∀ j, j < i → risE n l j = true) ∧ wr = w) (fun iv _ => m - (intOf iv).toNat)
  case atStart => exact ⟨0, by omega, rfl, hid fun j hj => by omega, rfl⟩
  case round =>
    obtain ⟨i, hi, rfl, hE, rfl⟩ := hrel
    by_cases him : i < m
    · have hil : i < l.length := by rw [← HM.out]; exact him
      obtain ⟨b, o, rfl, hb, hc⟩ := HR.out.at (by omega)
      have p1 := hc i hil
      have hri : risE n l i = (inB (nth l i) 0 (n - 1) && (decide (i = 0) || decide (nth l (i - 1) < nth l i))) := rfl
      have HNO := hid fun (h : risE n l i = false) => risB_no hil h
      have p0 : 0 < i → wr.cell? ⟨b, o + (i - 1), none⟩ = some (.int .i64 (nth l (i - 1))) := fun h => hc (i - 1) (by omega)
      have q1 : (i : Int) < (m : Int) := by omega
      have HWI := hid fun W => within_any (nth l i) 0 (n - 1) W
      cases hin : inB (nth l i) 0 (n - 1) with
      | false =>
        rw [hin] at hri HWI
        have HX := hid (HNO.out (by rw [hri]; rfl))
        clear hri p0 hin hc
        generalize nth l i = x at *
        go_wp2_with (first | (go_at_call 24; refine (HWI.out _).mono ?_; rintro e w2 ⟨rfl, hx⟩; subst w2))
        go_ret
        exact ⟨by rw [HX.out]; rfl, Below.refl _ _⟩
      | true =>
        rw [hin] at hri HWI
        by_cases h0 : i = 0
        · subst h0
          have HX := hid (show risE n l 0 = true by rw [hri]; rfl)
          simp only [Nat.add_zero, Int.natCast_zero] at p1 q1
          simp only [Int.natCast_zero]
          clear hri p0 hin hc
          generalize nth l 0 = x at *
          go_wp2_with (first | (go_at_call 24; refine (HWI.out _).mono ?_; rintro e w2 ⟨rfl, hx⟩; subst w2))
          go_roundw
          case rel => exact ⟨1, by omega, by go_num, hid fun j hj => by rw [show j = 0 by omega]; exact HX.out, by first | rfl | trivial⟩
          case measure => simp [intOf]; omega
        · have p2 := p0 (by omega)
          rw [decide_eq_false h0] at hri
          have e2 : decide ((0 : Int) < (i : Int)) = true := decide_eq_true (by omega)
          obtain ⟨k, hk⟩ : ∃ k, k = i - 1 := ⟨_, rfl⟩
          have hik : i = k + 1 := by omega
          rw [← hk] at p2 hri
          subst hik
          by_cases hlt : nth l k < nth l (k + 1)
          · have HX := hid (show risE n l (k + 1) = true by rw [hri, decide_eq_true hlt]; rfl)
            have e3 : decide (nth l (k + 1) ≤ nth l k) = false := decide_eq_false (by omega)
            clear hri p0 hin hc hk hlt h0
            generalize nth l (k + 1) = x at *
            generalize nth l k = y at *
            go_wp2_with (first | (go_at_call 24; refine (HWI.out _).mono ?_; rintro e w2 ⟨rfl, hx⟩; subst w2))
            go_roundw
            case rel => exact ⟨k + 1 + 1, by omega, by go_num, hid fun j hj => by
              rcases Nat.eq_or_lt_of_le (Nat.le_of_lt_succ hj) with e | h
              · rw [e]; exact HX.out
              · exact hE.out j h, by first | rfl | trivial⟩
            case measure => simp [intOf]; omega
          · have HX := hid (HNO.out (by rw [hri, decide_eq_false hlt]; rfl))
            have e3 : decide (nth l (k + 1) ≤ nth l k) = true := decide_eq_true (by omega)
            clear hri p0 hin hc hk hlt h0
            generalize nth l (k + 1) = x at *
            generalize nth l k = y at *
            go_wp2_with (first | (go_at_call 24; refine (HWI.out _).mono ?_; rintro e w2 ⟨rfl, hx⟩; subst w2))
            go_ret
            exact ⟨by rw [HX.out]; rfl, Below.refl _ _⟩
    · obtain rfl : i = m := by omega
      have q1 : decide ((i : Int) < (i : Int)) = false := by simp
      have HX := hid (risB_yes (n := n) (l := l) fun j hj => hE.out j (by rw [HM.out]; exact hj))
      go_wp2_with fail
      go_ret
      exact ⟨by rw [HX.out]; rfl, Below.refl _ _⟩
end Go.Proofs.Ytaoddenadfmdbaa
