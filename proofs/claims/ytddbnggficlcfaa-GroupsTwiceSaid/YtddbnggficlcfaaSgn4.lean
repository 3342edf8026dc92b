/- ostraconref01.sign. -/
import Derived.Test.YtddbnggficlcfaaSgn3
namespace Go.Proofs.Ytddbnggficlcfaa
open Go.RowKit
theorem vl_at {l : List Vl} {i : Nat} (h : i < l.length) : vl l i = l[i] := by unfold vl; rw [List.getD_eq_getElem?_getD, List.getElem?_eq_getElem h]; rfl
theorem any_take_s {l : List Vl} {f : Vl → Bool} {j : Nat} (hj : j < l.length) (h : (l.take j).any f = false) (h2 : f l[j] = false) : (l.take (j + 1)).any f = false := by
  rw [List.take_add_one, List.getElem?_eq_getElem hj, Option.toList_some, List.any_append, h]
  simp [h2]
theorem any_take_at {l : List Vl} {f : Vl → Bool} {j k : Nat} (hj : j < l.length) (hk : j < k) (h2 : f l[j] = true) : (l.take k).any f = true :=
  List.any_eq_true.2 ⟨l[j], List.mem_take_iff_getElem.2 ⟨j, by omega, rfl⟩, h2⟩
set_option maxRecDepth 100000 in
set_option maxHeartbeats 4000000 in
theorem sign_any (P : Int) (s : Sg) (hl : s.vals.length ≤ 1000000) (w : World) (r : Vls w w.heap.size s.va s.vals) :
    Calls Try.prog 88 #[.agg #[.string s.code, .int .i64 s.wide, .int .i64 s.high, .bool s.even, .slice s.va s.vals.length s.vc], .int .i64 P] w fun e w' => e = .returned (.int .i64 (sgE P s)) ∧ Below w.heap.size w w' := by
  obtain ⟨E, hE⟩ : ∃ E, E = sgE P s := ⟨_, rfl⟩
  rw [← hE]
  unfold sgE at hE
  obtain ⟨code, wide, high, even, l, va, vc⟩ := s
  simp only [] at hl r hE ⊢
  obtain ⟨w1, hw1⟩ : ∃ w1, w1 = w.alloc (.cells #[.string code, .int .i64 wide, .int .i64 high, .bool even, .slice va l.length vc] 76) := ⟨_, rfl⟩
  have hb1 : Below w.heap.size w w1 := by rw [hw1]; exact (Below.refl _ _).alloc (Nat.le_refl _) _
  have hz1 : w1.heap.size = w.heap.size + 1 := by rw [hw1]; simp
  have hc4 : w1.cell? ⟨w.heap.size, 4, none⟩ = some (.slice va l.length vc) := by rw [hw1]; simp
  have r1 : Vls w1 w1.heap.size va l := (r.below hb1).more (by omega)
  have HE := hid hE; have HB1 := hid hb1; have HC4 := hid hc4; have HR := hid r1; have HZ1 := hid hz1; have HW1 := hid hw1
  clear hE hb1 hc4 r r1 hz1 hw1
  obtain ⟨n, hn⟩ : ∃ n, n = l.length := ⟨_, rfl⟩
  rw [← hn] at hl HC4 HE HW1 ⊢
  have HN := hid hn
  clear hn
  go_enter Try.func88, Try.ntmps88
  go_wp2_with fail
  all_goals try (go_ret; exact ⟨by rw [HE.out]; first | rfl | ((repeat' split) <;> first | rfl | (exfalso; omega)), by rw [← HW1.out]; exact HB1.out⟩)
  have HE2 : Hid (E = valsE P l) := by rw [HE.out]; exact by first | rfl | ((repeat' split) <;> first | rfl | (exfalso; omega))
  rw [← HW1.out]
  clear HE
  have HCW := hid fun (wr : World) (h : Below w1.heap.size w1 wr) => (h.cell (p := ⟨w.heap.size, 4, none⟩) (by have := HZ1.out; simp; omega)).trans HC4.out
  have HW : Hid (∀ wr, Below w1.heap.size w1 wr → Below w.heap.size w wr) := fun wr h => HB1.out.trans (h.mono (by have := HZ1.out; omega))
  clear HW1 HB1 HC4
  obtain ⟨B0, hB0⟩ : ∃ B0, B0 = w.heap.size := ⟨_, rfl⟩
  rw [← hB0] at HCW HZ1 ⊢
  clear hB0
  go_loopw [5] (fun kv wr => ∃ k : Nat, k ≤ n ∧ kv = .int .i64 k ∧ Hid (firstE (fun i => valE P (l.take i) (vl l i)) k = 0) ∧ Hid (Below w1.heap.size w1 wr)) (fun kv _ => n - (intOf kv).toNat)
  case atStart => exact ⟨0, by omega, rfl, hid rfl, hid (Below.refl _ _)⟩
  case round =>
    obtain ⟨k, hk, rfl, hF, hB⟩ := hrel
    have cc := HCW.out wr hB.out
    by_cases hkn : k < n
    · have hkl : k < l.length := by rw [← HN.out]; exact hkn
      obtain ⟨b1, o1, hA1, hb1, hcA⟩ := HR.out.at (by omega)
      subst hA1
      have hx := (hcA k hkl).below hB.out hb1
      have c1 := hx.kind; have c2 := hx.text; have c3 := hx.frm; have c4 := hx.to
      obtain ⟨v, hv⟩ : ∃ v, v = l[k] := ⟨_, rfl⟩
      rw [← hv] at c1 c2 c3 c4
      obtain ⟨E2, hE2⟩ : ∃ E2, E2 = valE P (l.take k) v := ⟨_, rfl⟩
      have hfk : valE P (l.take k) (vl l k) = E2 := by
        rw [vl_at hkl, ← hv, hE2]
      have hbad : E2 ≠ 0 → E = E2 := fun h => by
        rw [HE2.out]
        unfold valsE
        rw [firstE_at hF.out (by rw [hfk]; exact h) _ hkl, hfk]
      have hgood : E2 = 0 → firstE (fun i => valE P (l.take i) (vl l i)) (k + 1) = 0 := fun h => firstE_s hF.out (by rw [hfk]; exact h)
      unfold valE at hE2
      have hmj : ∀ (j : Nat) (hj : j < l.length) (b : Bool), meetB l[j] v = b → meetB v l[j] = b := fun j hj b h => by rw [meetB_comm]; exact h
      have hrt := fun W => right_any v.kind v.text W
      have hco := fun (j : Nat) (hj : j < l.length) W => collide_any l[j] v W
      have hq : (k : Int) < (n : Int) := by omega
      have HC := hid hcA; have HBAD := hid hbad; have HGOOD := hid hgood; have HE3 := hid hE2; have HMJ := hid hmj; have HCO := hid hco
      clear hx hfk hbad hgood hE2 hmj hco hF hcA
      generalize hxx : textB v.kind v.text = x at hrt
      rw [hxx] at HE3
      have HRT := hid hrt
      clear hxx hrt
      obtain ⟨kd, tx, fr, to⟩ := v
      simp only [] at c1 c2 c3 c4 HE3 HRT HMJ HCO HBAD HGOOD hv
      have HV := hid hv
      clear hv
      have HBA := hid fun o => hB.out.alloc hB.out.size o
      have HSZ := hid hB.out.size
      cases x <;> simp only [Bool.false_eq_true, and_false, not_false_eq_true, if_true, and_true] at HE3
      · go_wp2_with (go_at_call 105; refine (HRT.out _).mono ?_; rintro e w3 ⟨rfl, rfl⟩)
        all_goals
          go_ret
          exact ⟨congrArg (fun x => Ending.returned (.int .i64 x)) (by rw [HBAD.out (by rw [HE3.out]; decide), HE3.out]), HW.out _ (HBA.out _)⟩
      · go_wp2_with (go_at_call 105; refine (HRT.out _).mono ?_; rintro e w3 ⟨rfl, rfl⟩)
        all_goals try (go_ret; refine ⟨?_, HW.out _ (HBA.out _)⟩; have hEE := HE3.out; rw [if_pos (by omega)] at hEE; exact congrArg (fun x => Ending.returned (.int .i64 x)) (by rw [HBAD.out (by rw [hEE]; decide), hEE]))
        all_goals try (go_ret; refine ⟨?_, HW.out _ (HBA.out _)⟩; have hEE := HE3.out; rw [if_neg (by omega), if_pos (by omega)] at hEE; exact congrArg (fun x => Ending.returned (.int .i64 x)) (by rw [HBAD.out (by rw [hEE]; decide), hEE]))
        have HE4 : Hid (E2 = if (l.take k).any (meetB ⟨kd, tx, fr, to⟩) = true then 12 else 0) := by
          rw [HE3.out, if_neg (by omega), if_neg (by omega)]
          exact hid rfl
        obtain ⟨w3, hw3⟩ : ∃ w3, w3 = wr.alloc (.cells #[.int .i64 kd, .string tx, .int .i64 fr, .int .i64 to] 108) := ⟨_, rfl⟩
        have HV3 : Hid (VlAt w3 wr.heap.size 0 ⟨kd, tx, fr, to⟩) := by rw [hw3]; exact hid (by refine ⟨?_, ?_, ?_, ?_⟩ <;> simp)
        have HB3 : Hid (Below w1.heap.size w1 w3) := by rw [hw3]; exact hid (HBA.out _)
        have HZ3 : Hid (wr.heap.size < w3.heap.size) := by rw [hw3]; exact hid (by simp)
        rw [← hw3]
        clear HE3 HRT HBA c1 c2 c3 c4 cc hw3
        obtain ⟨B3, hB3⟩ : ∃ B3, B3 = wr.heap.size := ⟨_, rfl⟩
        rw [← hB3] at HV3 HZ3 ⊢
        clear hB3
        go_loopw [7] (fun jv w7 => ∃ j : Nat, j ≤ k ∧ jv = .int .i64 j ∧ Hid ((l.take j).any (meetB ⟨kd, tx, fr, to⟩) = false) ∧ Hid (Below w3.heap.size w3 w7)) (fun jv _ => k - (intOf jv).toNat)
        case atStart => exact ⟨0, by omega, rfl, hid rfl, hid (Below.refl _ _)⟩
        case round =>
          obtain ⟨j, hj, rfl, hF7, hB7⟩ := hrel
          by_cases hjk : j < k
          · have hjl : j < l.length := by omega
            have hq7 : (j : Int) < (k : Int) := by omega
            have hqn : (j : Int) < (n : Int) := by omega
            have hbz : ∀ z : BW w3.heap.size wr, Below w1.heap.size w1 z.val := fun z => HB3.out.trans ((hB7.out.trans z.ok).mono HB3.out.size)
            have hx := fun z : BW w3.heap.size wr => (HC.out j hjl).below (hbz z) hb1
            have hy := fun z : BW w3.heap.size wr => HV3.out.below (hB7.out.trans z.ok) HZ3.out
            have d1 := fun z => (hx z).kind; have d2 := fun z => (hx z).text; have d3 := fun z => (hx z).frm; have d4 := fun z => (hx z).to
            have e1 := fun z => (hy z).kind; have e2 := fun z => (hy z).text; have e3 := fun z => (hy z).frm; have e4 := fun z => (hy z).to
            have cz := fun z : BW w3.heap.size wr => HCW.out z.val (hbz z)
            have ho := below_class hB7.out.size (v := .bool (meetB l[j] ⟨kd, tx, fr, to⟩)) (fun z => HCO.out j hjl z.val)
            obtain ⟨m, hm⟩ : ∃ m, m = meetB l[j] ⟨kd, tx, fr, to⟩ := ⟨_, rfl⟩
            rw [← hm] at ho
            have hm2 := HMJ.out j hjl m hm.symm
            have hyes : m = true → E2 = 12 := fun h => by rw [HE4.out, if_pos (any_take_at hjl hjk (by rw [hm2, h]))]
            have hno : m = false → (l.take (j + 1)).any (meetB ⟨kd, tx, fr, to⟩) = false := fun h => any_take_s hjl hF7.out (by rw [hm2, h])
            have HO := hid ho; have HYES := hid hyes; have HNO := hid hno; have HBZ := hid hbz
            clear ho hyes hno hm2 hbz hx hy hF7
            generalize l[j] = u at d1 d2 d3 d4 HO hm
            clear hm
            obtain ⟨k2, t2, f2, g2⟩ := u
            simp only [Nat.zero_add] at d1 d2 d3 d4 e1 e2 e3 e4 HO
            have HB := hid (Below.refl w3.heap.size wr)
            go_wp2_with fail
            refine region_below (by kernel_rfl) (by kernel_rfl) HB.out ?_
            repeat (go_big_quiet_step ((go_at_call 106; go_must (exact (HO.out _)))))
            refine wpQuiet_nil ?_
            intro _ hw'
            obtain ⟨z, rfl⟩ := hw'
            have HZ := hid (HBZ.out z)
            have HZ2 := hid (hB7.out.trans z.ok)
            clear d1 d2 d3 d4 e1 e2 e3 e4 cz HO HB
            cases m with
            | true =>
              have HY := hid (HYES.out rfl)
              clear HYES HNO
              go_wp2_with fail
              go_ret
              exact ⟨congrArg (fun x => Ending.returned (.int .i64 x)) (by rw [HBAD.out (by rw [HY.out]; decide), HY.out]), HW.out _ HZ.out⟩
            | false =>
              have HY := hid (HNO.out rfl)
              clear HYES HNO
              go_wp2_with fail
              go_roundw
              case rel => exact ⟨j + 1, by omega, by go_num, HY.out, HZ2.out⟩
              case measure => simp [intOf]; omega
          · obtain rfl : j = k := by omega
            have HG := hid (HGOOD.out (by rw [HE4.out, if_neg (by rw [hF7.out]; simp)]))
            have HB7 := hid (HB3.out.trans (hB7.out.mono HB3.out.size))
            clear hF7
            go_wp2_with fail
            go_roundw
            case rel => exact ⟨j + 1, by omega, by go_num, HG.out, HB7.out⟩
            case measure => simp [intOf]; omega
    · obtain rfl : n = k := by omega
      have HX : Hid (E = 0) := by
        rw [HE2.out]
        unfold valsE
        rw [← HN.out]
        exact hF.out
      clear hF
      go_wp2_with fail
      go_ret
      exact ⟨congrArg (fun x => Ending.returned (.int .i64 x)) (by rw [HX.out]), HW.out _ hB.out⟩
end Go.Proofs.Ytddbnggficlcfaa
