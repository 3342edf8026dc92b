/- ostraconref02.SameMarks, ostraconref02.SameRings. -/
import Derived.Test.YtddbnggficlcfaaRingsR
import Derived.Test.YtddbnggficlcfaaSameT
import Derived.ChangeKeysEq
namespace Go.Proofs.Ytddbnggficlcfaa
open Go.RowKit
theorem run_neq_mark (x y : Mk) (W : World) : (binOp .neq 70 (.agg #[.int .i64 x.sign, .int .i64 x.state, .int .i64 x.mn, .int .i64 x.mx]) (.agg #[.int .i64 y.sign, .int .i64 y.state, .int .i64 y.mn, .int .i64 y.mx])).run Try.prog W = .ok (.bool (decide (x ≠ y))) W := by
  obtain ⟨x1, x2, x3, x4⟩ := x
  obtain ⟨y1, y2, y3, y4⟩ := y
  simp [go_sem]
  (repeat' split) <;> simp [*]
theorem run_neq_pair (x y : Int × Int) (W : World) : (binOp .neq 72 (.agg #[.int .i64 x.1, .int .i64 x.2]) (.agg #[.int .i64 y.1, .int .i64 y.2])).run Try.prog W = .ok (.bool (decide (x ≠ y))) W := by
  obtain ⟨x1, x2⟩ := x
  obtain ⟨y1, y2⟩ := y
  obtain ⟨i0, hi, _⟩ := info_parts Try.infoInt
  rw [run_neq_struct, show (10000 : Nat) = 9999 + 1 from rfl, run_equalIn_array W 9999 _ _ Try.underlying72 hi]
  rw [show Try.prog.cellsOf 3 = 1 from by kernel_rfl]
  simp [go_sem, Op.eqItems, List.range, List.range.loop]
  (repeat' split) <;> simp [*]
theorem flat2_get : ∀ (l : List (Int × Int)) (k j : Nat) (hk : k < l.length), j < 2 → (flat2 l)[k * 2 + j]? = (cells2 l[k])[j]?
  | a :: l, 0, j, _, hj => by
    unfold flat2
    rw [List.flatMap_cons, Nat.zero_mul, Nat.zero_add, List.getElem?_append_left (by simpa [cells2] using hj)]
    rfl
  | a :: l, k + 1, j, hk, hj => by
    have ih := flat2_get l k j (by simpa using hk) hj
    unfold flat2 at ih ⊢
    rw [List.flatMap_cons, List.getElem?_append_right (by simp only [cells2, List.length_cons, List.length_nil]; omega)]
    have e : (k + 1) * 2 + j - (cells2 a).length = k * 2 + j := by simp only [cells2, List.length_cons, List.length_nil]; omega
    rw [e, ih]
    rfl
def Prs (w : World) (B : Nat) (A : Option Addr) (l : List (Int × Int)) : Prop := Reads w B 2 A l.length (flat2 l)
structure PrAt (w : World) (b o : Nat) (m : Int × Int) : Prop where
  p1 : w.cell? ⟨b, o, none⟩ = some (.int .i64 m.1)
  p2 : w.cell? ⟨b, o + 1, none⟩ = some (.int .i64 m.2)
theorem Prs.at {w : World} {B : Nat} {A : Option Addr} {l : List (Int × Int)} (h : Prs w B A l) (hl : 0 < l.length) :
    ∃ b o, A = some ⟨b, o, none⟩ ∧ b < B ∧ ∀ k (hk : k < l.length), PrAt w b (o + k * 2) l[k] := by
  obtain ⟨b, o, rfl, hb, hc⟩ := Reads.at0 h hl (by rw [flat2_len]; omega)
  refine ⟨b, o, rfl, hb, fun k hk => ?_⟩
  have hx : ∀ j u, j < 2 → (cells2 l[k])[j]? = some u → w.cell? ⟨b, o + k * 2 + j, none⟩ = some u := fun j u hj hu => by
    rw [Nat.add_assoc]
    exact hc _ u (by rw [flat2_get l k j hk hj]; exact hu)
  exact ⟨hx 0 _ (by omega) rfl, hx 1 _ (by omega) rfl⟩
theorem PrAt.below {w w' : World} {B b o : Nat} {m : Int × Int} (h : PrAt w b o m) (hb : Below B w w') (hB : b < B) : PrAt w' b o m :=
  have c : ∀ j, w'.cell? ⟨b, j, none⟩ = w.cell? ⟨b, j, none⟩ := fun j => hb.cell (p := ⟨b, j, none⟩) hB
  ⟨(c _).trans h.p1, (c _).trans h.p2⟩
set_option maxRecDepth 100000 in
set_option maxHeartbeats 2000000 in
theorem sameMarks_any (a b : List Mk) (Aa Ab : Option Addr) (ca cb : Nat) (ha : a.length ≤ 1000000) (hb : b.length ≤ 1000000) (w : World) (ra : Mks w w.heap.size Aa a) (rb : Mks w w.heap.size Ab b) :
    Calls Try.prog 34 #[.slice Aa a.length ca, .slice Ab b.length cb] w (BoolIs (a = b) w) := by
  have RA := hid ra; have RB := hid rb
  have HNI := hid (fun (i : Nat) (ha : i < a.length) (hb : i < b.length) (h1 : a[i] ≠ b[i]) (h2 : a = b) => h1 (by subst h2; rfl))
  obtain ⟨n, hn⟩ : ∃ n, n = a.length := ⟨_, rfl⟩
  obtain ⟨m, hm⟩ : ∃ m, m = b.length := ⟨_, rfl⟩
  rw [← hn] at ha ⊢
  rw [← hm] at hb ⊢
  have HEQ := hid (fun (h1 : n = m) (h2 : ∀ (i : Nat) (ha : i < a.length) (hb : i < b.length), a[i] = b[i]) => eq_take h2 (by omega))
  have HNE := hid (fun (h1 : n ≠ m) (h2 : a = b) => h1 (by rw [hn, hm, h2]))
  have HN := hid hn; have HM := hid hm
  have HBW : Hid (∀ q, Below w.heap.size w (w.drewN q)) := fun q => below_drewN (Below.refl _ _) q
  clear hn hm ra rb
  go_enter Try.func34, Try.ntmps34
  by_cases hnm : n = m
  · have f0 : ((n : Int) != (m : Int)) = false := by simp [hnm]
    have f1 : (n != m) = false := by simp [hnm]
    have HQ := hid (HEQ.out hnm)
    have hnm2 := hid hnm
    clear HNE HEQ hnm
    go_wp2_with fail
    go_loopw [5] (fun kv wr => ∃ k : Nat, k ≤ n ∧ kv = .int .i64 k ∧ Hid (∀ (i : Nat) (ha : i < a.length) (hb : i < b.length), i < k → a[i] = b[i]) ∧ ∃ q, wr = w.drewN q) (fun kv _ => n - (intOf kv).toNat)
    case atStart => exact ⟨0, by omega, rfl, hid (fun i _ _ h => by omega), 0, rfl⟩
    case round =>
      obtain ⟨k, hk, rfl, hP, q, rfl⟩ := hrel
      by_cases hkn : k < n
      · have hka : k < a.length := by rw [← HN.out]; exact hkn
        have hkb : k < b.length := by rw [← HM.out, ← hnm2.out]; exact hkn
        have hq1 : (k : Int) < (n : Int) := by omega
        have hq2 : (k : Int) < (m : Int) := by rw [← hnm2.out]; exact hq1
        obtain ⟨b1, o1, rfl, _, hc1⟩ := RA.out.at (by omega)
        obtain ⟨b2, o2, rfl, _, hc2⟩ := RB.out.at (by omega)
        have hx := hc1 k hka; have hy := hc2 k hkb
        have hno := HNI.out k hka hkb
        have hyes : a[k]'hka = b[k]'hkb → ∀ (i : Nat) (ha : i < a.length) (hb : i < b.length), i < k + 1 → a[i] = b[i] := fun h i ha hb hi => by
          rcases Nat.eq_or_lt_of_le (Nat.le_of_lt_succ hi) with rfl | h3
          · exact h
          · exact hP.out i ha hb h3
        generalize a[k]'hka = x at hx hno hyes
        generalize b[k]'hkb = y at hy hno hyes
        have d1 := hx.sign; have d2 := hx.state; have d3 := hx.mn; have d4 := hx.mx; have e1 := hy.sign; have e2 := hy.state; have e3 := hy.mn; have e4 := hy.mx
        have HY := hid hyes; have HN2 := hid hno
        clear hx hy hc1 hc2 hno hyes hP
        by_cases hxy : x = y
        · have HX := hid (HY.out hxy)
          clear HY HN2
          subst hxy
          have hne := fun W => run_neq_mark x x W
          rw [decide_eq_false (fun h => h rfl)] at hne
          obtain ⟨x1, x2, x3, x4⟩ := x
          simp only [] at d1 d2 d3 d4 e1 e2 e3 e4 hne
          go_wp2_with fail
          go_quiet (fail)
          go_wp2_with fail
          go_roundw
          case rel => exact ⟨k + 1, by omega, by go_num, HX.out, _, by first | rfl | exact World.drewN_drewN _ _ _⟩
          case measure => simp [intOf]; omega
        · have HX := hid (HN2.out hxy)
          clear HY HN2
          have hne := fun W => run_neq_mark x y W
          rw [decide_eq_true hxy] at hne
          obtain ⟨x1, x2, x3, x4⟩ := x
          obtain ⟨y1, y2, y3, y4⟩ := y
          simp only [] at d1 d2 d3 d4 e1 e2 e3 e4 hne
          clear hxy
          go_wp2_with fail
          go_quiet (fail)
          go_wp2_with fail
          go_ret
          exact ⟨⟨_, rfl, iff_of_false (by simp) HX.out⟩, by first | exact HBW.out _ | (rw [World.drewN_drewN]; exact HBW.out _)⟩
      · obtain rfl : k = n := by omega
        have HX := hid (HQ.out fun i ha hb => hP.out i ha hb (by rw [HN.out]; exact ha))
        clear hP
        go_wp2_with fail
        go_ret
        exact ⟨⟨_, rfl, iff_of_true (by simp) HX.out⟩, HBW.out _⟩
  · have HX := hid (HNE.out hnm)
    have f0 : ((n : Int) != (m : Int)) = true := by rw [bne_iff_ne]; omega
    have f1 : (n != m) = true := by rw [bne_iff_ne]; exact hnm
    clear hnm
    go_wp2_with fail
    all_goals first | (go_ret; exact ⟨⟨_, rfl, iff_of_false (by simp) HX.out⟩, HBW.out 0⟩) | (exfalso; omega)
set_option maxRecDepth 100000 in
set_option maxHeartbeats 2000000 in
theorem sameRings_any (a b : List (Int × Int)) (Aa Ab : Option Addr) (ca cb : Nat) (ha : a.length ≤ 1000000) (hb : b.length ≤ 1000000) (w : World) (ra : Prs w w.heap.size Aa a) (rb : Prs w w.heap.size Ab b) :
    Calls Try.prog 35 #[.slice Aa a.length ca, .slice Ab b.length cb] w (BoolIs (a = b) w) := by
  have RA := hid ra; have RB := hid rb
  have HNI := hid (fun (i : Nat) (ha : i < a.length) (hb : i < b.length) (h1 : a[i] ≠ b[i]) (h2 : a = b) => h1 (by subst h2; rfl))
  obtain ⟨n, hn⟩ : ∃ n, n = a.length := ⟨_, rfl⟩
  obtain ⟨m, hm⟩ : ∃ m, m = b.length := ⟨_, rfl⟩
  rw [← hn] at ha ⊢
  rw [← hm] at hb ⊢
  have HEQ := hid (fun (h1 : n = m) (h2 : ∀ (i : Nat) (ha : i < a.length) (hb : i < b.length), a[i] = b[i]) => eq_take h2 (by omega))
  have HNE := hid (fun (h1 : n ≠ m) (h2 : a = b) => h1 (by rw [hn, hm, h2]))
  have HN := hid hn; have HM := hid hm
  have HBW : Hid (∀ q, Below w.heap.size w (w.drewN q)) := fun q => below_drewN (Below.refl _ _) q
  clear hn hm ra rb
  go_enter Try.func35, Try.ntmps35
  by_cases hnm : n = m
  · have f0 : ((n : Int) != (m : Int)) = false := by simp [hnm]
    have f1 : (n != m) = false := by simp [hnm]
    have HQ := hid (HEQ.out hnm)
    have hnm2 := hid hnm
    clear HNE HEQ hnm
    go_wp2_with fail
    go_loopw [5] (fun kv wr => ∃ k : Nat, k ≤ n ∧ kv = .int .i64 k ∧ Hid (∀ (i : Nat) (ha : i < a.length) (hb : i < b.length), i < k → a[i] = b[i]) ∧ ∃ q, wr = w.drewN q) (fun kv _ => n - (intOf kv).toNat)
    case atStart => exact ⟨0, by omega, rfl, hid (fun i _ _ h => by omega), 0, rfl⟩
    case round =>
      obtain ⟨k, hk, rfl, hP, q, rfl⟩ := hrel
      by_cases hkn : k < n
      · have hka : k < a.length := by rw [← HN.out]; exact hkn
        have hkb : k < b.length := by rw [← HM.out, ← hnm2.out]; exact hkn
        have hq1 : (k : Int) < (n : Int) := by omega
        have hq2 : (k : Int) < (m : Int) := by rw [← hnm2.out]; exact hq1
        obtain ⟨b1, o1, rfl, _, hc1⟩ := RA.out.at (by omega)
        obtain ⟨b2, o2, rfl, _, hc2⟩ := RB.out.at (by omega)
        have hx := hc1 k hka; have hy := hc2 k hkb
        have hno := HNI.out k hka hkb
        have hyes : a[k]'hka = b[k]'hkb → ∀ (i : Nat) (ha : i < a.length) (hb : i < b.length), i < k + 1 → a[i] = b[i] := fun h i ha hb hi => by
          rcases Nat.eq_or_lt_of_le (Nat.le_of_lt_succ hi) with rfl | h3
          · exact h
          · exact hP.out i ha hb h3
        generalize a[k]'hka = x at hx hno hyes
        generalize b[k]'hkb = y at hy hno hyes
        have d1 := hx.p1; have d2 := hx.p2; have e1 := hy.p1; have e2 := hy.p2
        have HY := hid hyes; have HN2 := hid hno
        clear hx hy hc1 hc2 hno hyes hP
        by_cases hxy : x = y
        · have HX := hid (HY.out hxy)
          clear HY HN2
          subst hxy
          have hne := fun W => run_neq_pair x x W
          rw [decide_eq_false (fun h => h rfl)] at hne
          obtain ⟨x1, x2⟩ := x
          simp only [] at d1 d2 e1 e2 hne
          go_wp2_with fail
          go_quiet (fail)
          go_wp2_with fail
          go_roundw
          case rel => exact ⟨k + 1, by omega, by go_num, HX.out, _, by first | rfl | exact World.drewN_drewN _ _ _⟩
          case measure => simp [intOf]; omega
        · have HX := hid (HN2.out hxy)
          clear HY HN2
          have hne := fun W => run_neq_pair x y W
          rw [decide_eq_true hxy] at hne
          obtain ⟨x1, x2⟩ := x
          obtain ⟨y1, y2⟩ := y
          simp only [] at d1 d2 e1 e2 hne
          clear hxy
          go_wp2_with fail
          go_quiet (fail)
          go_wp2_with fail
          go_ret
          exact ⟨⟨_, rfl, iff_of_false (by simp) HX.out⟩, by first | exact HBW.out _ | (rw [World.drewN_drewN]; exact HBW.out _)⟩
      · obtain rfl : k = n := by omega
        have HX := hid (HQ.out fun i ha hb => hP.out i ha hb (by rw [HN.out]; exact ha))
        clear hP
        go_wp2_with fail
        go_ret
        exact ⟨⟨_, rfl, iff_of_true (by simp) HX.out⟩, HBW.out _⟩
  · have HX := hid (HNE.out hnm)
    have f0 : ((n : Int) != (m : Int)) = true := by rw [bne_iff_ne]; omega
    have f1 : (n != m) = true := by rw [bne_iff_ne]; exact hnm
    clear hnm
    go_wp2_with fail
    all_goals first | (go_ret; exact ⟨⟨_, rfl, iff_of_false (by simp) HX.out⟩, HBW.out 0⟩) | (exfalso; omega)
end Go.Proofs.Ytddbnggficlcfaa
