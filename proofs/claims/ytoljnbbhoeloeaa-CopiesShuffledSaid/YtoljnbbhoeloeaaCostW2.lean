/- WALK: costOf. -/
import Derived.Test.YtoljnbbhoeloeaaCostL
import Derived.Test.YtoljnbbhoeloeaaCheckL
import Derived.Test.YtoljnbbhoeloeaaStrW
namespace Go.Proofs.Ytoljnbbhoeloeaa
open Go.RowKit
/-- A slice of pairs that is only read. -/
def Rp (w : World) (B : Nat) (A : Option Addr) (ps : List (Int × Int)) : Prop := Reads w B 2 A ps.length (flatP ps)
theorem Rp.below {w w' : World} {B : Nat} {A : Option Addr} {ps : List (Int × Int)} (h : Rp w B A ps) (hb : Below B w w') : Rp w' B A ps := Reads.below h hb
theorem Rp.more {w : World} {B B' : Nat} {A : Option Addr} {ps : List (Int × Int)} (h : Rp w B A ps) (hB : B ≤ B') : Rp w B' A ps := Reads.more h hB
theorem flatP_len (ps : List (Int × Int)) : (flatP ps).length = ps.length * 2 := by
  induction ps with
  | nil => rfl
  | cons p ps ih => simp [flatP] at *; omega
theorem Rp.at {w : World} {B : Nat} {A : Option Addr} {ps : List (Int × Int)} (h : Rp w B A ps) (hl : 0 < ps.length) :
    ∃ b o, A = some ⟨b, o, none⟩ ∧ b < B ∧ ∀ k (hk : k < ps.length), w.cell? ⟨b, o + k * 2, none⟩ = some (.int .i64 ps[k].1) ∧ w.cell? ⟨b, o + (k * 2 + 1), none⟩ = some (.int .i64 ps[k].2) := by
  obtain ⟨b, o, rfl, hb, hc⟩ := Reads.at0 h hl (by rw [flatP_len]; omega)
  exact ⟨b, o, rfl, hb, fun k hk => ⟨hc _ _ (flatP_get ps k hk).1, hc _ _ (flatP_get ps k hk).2⟩⟩
set_option maxRecDepth 100000 in
set_option maxHeartbeats 2000000 in
theorem cost_any (a b : List Int) (ps : List (Int × Int)) (Aa Ab Ap : Option Addr) (ca cb cp : Nat) (ha : a.length ≤ 60) (hb : b.length ≤ 60) (hp : ps.length ≤ 200) (w : World) (ra : Rd w w.heap.size Aa a) (rb : Rd w w.heap.size Ab b) (rp : Rp w w.heap.size Ap ps) :
    Calls Try.prog 25 #[.slice Aa a.length ca, .slice Ab b.length cb, .slice Ap ps.length cp] w fun e w' => e = .returned (.tuple #[.int .i64 (cOf a b ps), .bool (cIs a b ps)]) ∧ Below w.heap.size w w' := by
  obtain ⟨la, hla⟩ : ∃ la, la = a.length := ⟨_, rfl⟩
  obtain ⟨lb, hlb⟩ : ∃ lb, lb = b.length := ⟨_, rfl⟩
  obtain ⟨np, hnp⟩ : ∃ np, np = ps.length := ⟨_, rfl⟩
  rw [← hla, ← hlb, ← hnp]
  rw [← hla] at ha
  rw [← hlb] at hb
  rw [← hnp] at hp
  have Hla := hid hla; have Hlb := hid hlb; have Hnp := hid hnp; have Ra := hid ra; have Rb := hid rb; have Rpp := hid rp; clear hla hlb hnp ra rb rp
  go_enter Try.func25, Try.ntmps25
  go_wp2_with fail
  go_loopw [8, 9, 10, 11] (fun i k c n wr => ∃ (j x y z : Nat), j ≤ np ∧ n = .int .i64 j ∧ i = .int .i64 x ∧ k = .int .i64 y ∧ c = .int .i64 z ∧ x ≤ la ∧ y ≤ lb ∧ z ≤ 3 * j ∧ Hid (cst a b (ps.take j) (0, 0, 0) = some (x, y, z)) ∧ Below w.heap.size w wr) (fun _ _ _ n _ => np - (intOf n).toNat)
  case atStart => exact ⟨0, 0, 0, 0, by omega, rfl, rfl, rfl, rfl, by omega, by omega, by omega, cst_nil _ _ _, Below.refl _ _⟩
  case round =>
    obtain ⟨j, x, y, z, hj, rfl, rfl, rfl, rfl, hx, hy, hz, hC, hbr⟩ := hrel
    have Hbr := hid hbr; clear hbr
    by_cases hjn : j < np
    · have hj2 : j < ps.length := by rw [← Hnp.out]; exact hjn
      obtain ⟨bp, op, rfl, hbp, hcp⟩ := Rpp.out.at (by omega)
      obtain ⟨c1, c2⟩ := hcp j hj2
      obtain ⟨l, hl⟩ : ∃ l, l = ps[j].1 := ⟨_, rfl⟩
      obtain ⟨r, hr⟩ : ∃ r, r = ps[j].2 := ⟨_, rfl⟩
      rw [← hl] at c1
      rw [← hr] at c2
      have hst : cst a b (ps.take (j + 1)) (0, 0, 0) = stp a b (x, y, z) (l, r) := by rw [cst_take hj2 hC.out, hl, hr]
      have Hst := hid hst
      have d1 := (Hbr.out.cell (p := ⟨bp, op + j * 2, none⟩) hbp).trans c1
      have d2 := (Hbr.out.cell (p := ⟨bp, op + (j * 2 + 1), none⟩) hbp).trans c2
      rw [← Nat.add_assoc] at d2
      have hbp2 : bp < wr.heap.size := by have := Hbr.out.size; omega
      have Hal := hid (Hbr.out.alloc Hbr.out.size (.cells #[.int .i64 l, .int .i64 r] 51))
      have hno : stp a b (x, y, z) (l, r) = none → cOf a b ps = 0 ∧ cIs a b ps = false := fun h => by
        have := cst_fail (hst.trans h)
        unfold cOf cIs
        rw [this]
        exact ⟨rfl, rfl⟩
      have Hno := hid hno
      clear hno hst hcp hl hr hC hj2 c1 c2
      have nx : ¬ ((x : Int) = -1) := by omega
      have ny : ¬ ((y : Int) = -1) := by omega
      have ex1 : ((x : Int) == -1) = false := by simp [nx]
      have ex2 : ((x : Int) != -1) = true := by simp [nx]
      have ey1 : ((y : Int) == -1) = false := by simp [ny]
      have ey2 : ((y : Int) != -1) = true := by simp [ny]
      by_cases hl1 : l = -1
      · subst hl1
        by_cases hr1 : r = -1
        · subst hr1
          have Hn12 := hid (Hno.out (stp_no (.inl ⟨rfl, rfl⟩)))
          go_wp2_with fail
          go_ret2
          exact ⟨by rw [Hn12.out.1, Hn12.out.2]; rfl, Hal.out⟩
        · by_cases hrk : r = (y : Int)
          · subst hrk
            by_cases hyl : y < lb
            · have g : ¬ lb < y + 1 := by omega
              have g2 : ¬ la < x := by omega
              have hs : cst a b (ps.take (j + 1)) (0, 0, 0) = some (x, y + 1, z + 2) := Hst.out.trans (stp_right (by have := Hla.out; have := Hlb.out; omega))
              have Hs := hid hs
              clear hs
              go_wp2_with fail
              go_roundw
              case rel => exact ⟨j + 1, x, y + 1, z + 2, by omega, by go_num, by go_num, by go_num, by go_num, by omega, by omega, by omega, Hs.out, Hal.out⟩
              case measure => simp [intOf]; omega
            · obtain rfl : y = lb := by omega
              have g2 : ¬ la < x := by omega
              have Hn12 := hid (Hno.out (stp_right_no (by have := Hla.out; have := Hlb.out; omega)))
              go_wp2_with fail
              go_ret2
              exact ⟨by rw [Hn12.out.1, Hn12.out.2]; rfl, Hal.out⟩
          · have hd : ¬ (-1 : Int) = (x : Int) := by omega
            have hb1 : (r == -1) = false := by simp [hr1]
            have hb2 : (r != -1) = true := by simp [hr1]
            have hb3 : (r != (y : Int)) = true := by simp [hrk]
            have Hn12 := hid (Hno.out (stp_no (by have := Hla.out; have := Hlb.out; omega)))
            go_wp2_with fail
            go_ret2
            exact ⟨by rw [Hn12.out.1, Hn12.out.2]; rfl, Hal.out⟩
      · by_cases hli : l = (x : Int)
        · subst hli
          by_cases hr1 : r = -1
          · subst hr1
            by_cases hxl : x < la
            · have g : ¬ la < x + 1 := by omega
              have g2 : ¬ lb < y := by omega
              have hs : cst a b (ps.take (j + 1)) (0, 0, 0) = some (x + 1, y, z + 2) := Hst.out.trans (stp_left (by have := Hla.out; have := Hlb.out; omega))
              have Hs := hid hs
              clear hs
              go_wp2_with fail
              go_roundw
              case rel => exact ⟨j + 1, x + 1, y, z + 2, by omega, by go_num, by go_num, by go_num, by go_num, by omega, by omega, by omega, Hs.out, Hal.out⟩
              case measure => simp [intOf]; omega
            · obtain rfl : x = la := by omega
              have Hn12 := hid (Hno.out (stp_left_no (by have := Hla.out; have := Hlb.out; omega)))
              go_wp2_with fail
              go_ret2
              exact ⟨by rw [Hn12.out.1, Hn12.out.2]; rfl, Hal.out⟩
          · by_cases hrk : r = (y : Int)
            · subst hrk
              by_cases hxl : x < la
              · by_cases hyl : y < lb
                · have g3 : ¬ la < x + 1 := by omega
                  have g4 : ¬ lb < y + 1 := by omega
                  obtain ⟨ba, oa, rfl, hba, hca⟩ := Ra.out.at (by rw [← Hla.out]; omega)
                  obtain ⟨bb, ob_, rfl, hbb, hcb⟩ := Rb.out.at (by rw [← Hlb.out]; omega)
                  have p5 : wr.cell? ⟨ba, oa + x, none⟩ = some (.int .i64 (nth a x)) := (Hbr.out.cell (p := ⟨ba, oa + x, none⟩) hba).trans (hca x (by rw [← Hla.out]; exact hxl))
                  have p6 : wr.cell? ⟨bb, ob_ + y, none⟩ = some (.int .i64 (nth b y)) := (Hbr.out.cell (p := ⟨bb, ob_ + y, none⟩) hbb).trans (hcb y (by rw [← Hlb.out]; exact hyl))
                  have hba2 : ba < wr.heap.size := by have := Hbr.out.size; omega
                  have hbb2 : bb < wr.heap.size := by have := Hbr.out.size; omega
                  have g1 : ¬ la ≤ x := by omega
                  have g2 : ¬ lb ≤ y := by omega
                  clear hca hcb
                  by_cases heq : nth a x = nth b y
                  · have he : (nth a x == nth b y) = true := by simp [heq]
                    have hs : cst a b (ps.take (j + 1)) (0, 0, 0) = some (x + 1, y + 1, z + 0) := by
                      have hbc : bc (nth a x) (nth b y) = 0 := by unfold bc; simp [heq]
                      rw [Hst.out, stp_both (by have := Hla.out; have := Hlb.out; omega) (by have := Hla.out; have := Hlb.out; omega)]
                      show some (x + 1, y + 1, z + bc (nth a x) (nth b y)) = _
                      rw [hbc]
                    have Hs := hid hs
                    clear hs
                    go_wp2_with fail
                    go_quiet (fail)
                    go_wp2_with fail
                    go_roundw
                    case rel => exact ⟨j + 1, x + 1, y + 1, z + 0, by omega, by go_num, by go_num, by go_num, by go_num, by omega, by omega, by omega, Hs.out, below_dr Hal.out _⟩
                    case measure => simp [intOf]; omega
                  · have hne := heq
                    have he : (nth a x == nth b y) = false := by simp [heq]
                    have hs : cst a b (ps.take (j + 1)) (0, 0, 0) = some (x + 1, y + 1, z + 3) := by
                      have hbc : bc (nth a x) (nth b y) = 3 := by unfold bc; simp [hne]
                      rw [Hst.out, stp_both (by have := Hla.out; have := Hlb.out; omega) (by have := Hla.out; have := Hlb.out; omega)]
                      show some (x + 1, y + 1, z + bc (nth a x) (nth b y)) = _
                      rw [hbc]
                    have Hs := hid hs
                    clear hs
                    go_wp2_with fail
                    go_quiet (fail)
                    go_wp2_with fail
                    go_roundw
                    case rel => exact ⟨j + 1, x + 1, y + 1, z + 3, by omega, by go_num, by go_num, by go_num, by go_num, by omega, by omega, by omega, Hs.out, below_dr Hal.out _⟩
                    case measure => simp [intOf]; omega
                · obtain rfl : y = lb := by omega
                  have g1 : ¬ la ≤ x := by omega
                  have Hn12 := hid (Hno.out (stp_both_no (by have := Hla.out; have := Hlb.out; omega)))
                  go_wp2_with fail
                  go_ret2
                  exact ⟨by rw [Hn12.out.1, Hn12.out.2]; rfl, Hal.out⟩
              · obtain rfl : x = la := by omega
                have Hn12 := hid (Hno.out (stp_both_no (by have := Hla.out; have := Hlb.out; omega)))
                go_wp2_with fail
                go_ret2
                exact ⟨by rw [Hn12.out.1, Hn12.out.2]; rfl, Hal.out⟩
            · have hb1 : (r == -1) = false := by simp [hr1]
              have hb2 : (r != -1) = true := by simp [hr1]
              have hb3 : (r != (y : Int)) = true := by simp [hrk]
              have Hn12 := hid (Hno.out (stp_no (by have := Hla.out; have := Hlb.out; omega)))
              go_wp2_with fail
              go_ret2
              exact ⟨by rw [Hn12.out.1, Hn12.out.2]; rfl, Hal.out⟩
        · have hb1 : (l == -1) = false := by simp [hl1]
          have hb2 : (l != -1) = true := by simp [hl1]
          have hb3 : (l != (x : Int)) = true := by simp [hli]
          have Hn12 := hid (Hno.out (stp_no (by have := Hla.out; have := Hlb.out; omega)))
          go_wp2_with fail
          go_ret2
          exact ⟨by rw [Hn12.out.1, Hn12.out.2]; rfl, Hal.out⟩
    · obtain rfl : j = np := by omega
      have hf : cst a b ps (0, 0, 0) = some (x, y, z) := by
        have := hC.out
        rwa [List.take_of_length_le (by rw [Hnp.out]; exact Nat.le_refl _)] at this
      have e1 : cOf a b ps = (z : Int) := by unfold cOf; rw [hf]
      have e2 : cIs a b ps = (decide (x = la) && decide (y = lb)) := by unfold cIs; rw [hf]; rw [Hla.out, Hlb.out]
      have He := hid (And.intro e1 e2)
      clear e1 e2 hf hC
      by_cases hxa : x = la
      · subst hxa
        by_cases hyb : y = lb
        · subst hyb
          go_wp2_with fail
          go_ret2
          exact ⟨by rw [He.out.1, He.out.2]; simp, Hbr.out⟩
        · go_wp2_with fail
          go_ret2
          exact ⟨by rw [He.out.1, He.out.2]; (first | (simp [hyb]; done) | (simp [hyb]; omega)), Hbr.out⟩
      · go_wp2_with fail
        go_ret2
        exact ⟨by rw [He.out.1, He.out.2]; (first | (simp [hxa]; done) | (simp [hxa]; omega)), Hbr.out⟩
end Go.Proofs.Ytoljnbbhoeloeaa
