/- ostraconref02.Order. -/
import Derived.Test.YtddbnggficlcfaaLinesE
namespace Go.Proofs.Ytddbnggficlcfaa
open Go.RowKit Go.Shelf
set_option maxRecDepth 100000 in
set_option maxHeartbeats 8000000 in
theorem refOrder_any (P : Int) (ss : List Sg) (l : List Nd) (hN : ss.length ≤ 1000000) (hv : ∀ s ∈ ss, s.vals.length ≤ 1000000) (hn : l.length ≤ 1000000) (A A2 : Option Addr) (c c2 : Nat) (w : World) (rs : Sgs w w.heap.size A ss) (rn : Nds w w.heap.size A2 l) :
    Calls Try.prog 31 #[.agg #[.int .i64 P, .slice A ss.length c], .agg #[.slice A2 l.length c2]] w (IntsPost (ordE P ss l) (ordL P ss l) w) := by
  obtain ⟨w1, hw1⟩ : ∃ w1, w1 = (w.alloc (.cells #[.int .i64 P, .slice A ss.length c] 24)).alloc (.cells #[.slice A2 l.length c2] 27) := ⟨_, rfl⟩
  have hb1 : Below w.heap.size w w1 := by rw [hw1]; exact ((Below.refl _ _).alloc (Nat.le_refl _) _).alloc (by simp) _
  have hz1 : w1.heap.size = w.heap.size + 2 := by rw [hw1]; simp
  have c0 : w1.cell? ⟨w.heap.size, 0, none⟩ = some (.int .i64 P) := by rw [hw1]; exact cell_old (cell_here rfl rfl)
  have c1 : w1.cell? ⟨w.heap.size, 1, none⟩ = some (.slice A ss.length c) := by rw [hw1]; exact cell_old (cell_here rfl rfl)
  have c3 : w1.cell? ⟨w.heap.size + 1, 0, none⟩ = some (.slice A2 l.length c2) := by rw [hw1]; exact cell_here (by simp) rfl
  have HLI := hid (refLine_any P ss l hN hv hn A A2 c c2 w1 ((rs.below hb1).more (by omega)) ((rn.below hb1).more (by omega)))
  have hml : (marks l).length ≤ 1000000 := by
    have := leaves_len l
    unfold marks
    rw [List.length_map]
    omega
  have m1 := ordE_bad (P := P) (ss := ss) (l := l); have m2 := ordE_gap (P := P) (ss := ss) (l := l); have m3 := ordE_ok (P := P) (ss := ss) (l := l)
  have m4 := linL_bad (P := P) (ss := ss) (l := l); have m5 := linL_ok (P := P) (ss := ss) (l := l)
  generalize linL P ss l = LL at HLI m4 m5
  generalize ordE P ss l = E at m1 m2 m3 ⊢
  generalize ordL P ss l = L at m1 m2 m3 ⊢
  generalize chkE P ss l = CE at HLI m1 m2 m3 m4 m5
  generalize ss.length = N at HLI c1 hw1 ⊢
  generalize l.length = n at HLI c3 hw1 ⊢
  generalize marks l = ms at m2 m3 m5 hml
  obtain ⟨nm, hnm⟩ : ∃ nm, nm = ms.length := ⟨_, rfl⟩
  rw [← hnm] at hml
  have HW1 := hid hw1; have HB1 := hid hb1; have HNM := hid hnm
  have M1 := hid m1; have M2 := hid m2; have M3 := hid m3; have M4 := hid m4; have M5 := hid m5
  have HW : Hid (∀ wr, Below w1.heap.size w1 wr → Below w.heap.size w wr) := fun wr h => hb1.trans (h.mono (by omega))
  clear hw1 hb1 hz1 m1 m2 m3 m4 m5 rs rn hv hN hnm
  go_enter Try.func31, Try.ntmps31
  go_upto_region 1 with (fail)
  rw [← HW1.out]
  clear HW1
  obtain ⟨B0, hB0⟩ : ∃ B0, B0 = w.heap.size := ⟨_, rfl⟩
  obtain ⟨B1, hB1⟩ : ∃ B1, B1 = B0 + 1 := ⟨_, rfl⟩
  rw [← hB0] at c0 c1 c3 ⊢
  rw [← hB1] at c3 ⊢
  clear hB0 hB1
  by_cases hCE : CE = 0
  · have f0 : (CE != 0) = false := by simp [hCE]
    obtain rfl := M5.out hCE
    replace M2 := hid (M2.out hCE); replace M3 := hid (M3.out hCE)
    clear M1 M4 M5
    subst hCE
    go_wp2_with (first | (go_at_call 29; refine HLI.out.mono ?_; rintro e w3 ⟨v3, rfl, ho3, hb3⟩; rw [← HNM.out] at ho3; obtain ⟨A3, c3', rfl⟩ := own_slice ho3; have HM := hid (show Mks w3 w3.heap.size A3 LL from by unfold Mks; rw [← HNM.out]; exact Reads.of_own ho3); have HB3 := hid hb3; clear ho3 hb3 c0 c1 c3 HLI))
    go_loopw [8, 9] (fun vv kv wr => ∃ k : Nat, k ≤ nm ∧ kv = .int .i64 k ∧ Hid (∀ m ∈ LL.take k, ¬ m.sign < 0) ∧ Hid (wr.ownsRow w3.heap.size 3 1 vv (sgns (LL.take k)).length (ints (sgns (LL.take k)))) ∧ Hid (Below w3.heap.size w3 wr)) (fun _ kv _ => nm - (intOf kv).toNat)
    case atStart => exact ⟨0, by omega, rfl, hid (fun m hm => by simp at hm), World.ownsRow_nil _ _ _ _, Below.refl _ _⟩
    case round =>
      obtain ⟨k, hk, rfl, hP, hO, hB⟩ := hrel
      obtain ⟨A5, c5, rfl⟩ := own_slice hO.out
      have HBW := hid (HW.out _ (HB3.out.trans (hB.out.mono HB3.out.size)))
      by_cases hkn : k < nm
      · have hkl : k < LL.length := by rw [← HNM.out]; exact hkn
        have hq : (k : Int) < (nm : Int) := by omega
        obtain ⟨b, o, rfl, hb, hc⟩ := HM.out.at (by omega)
        have hx := (hc k hkl).below hB.out hb
        have hst : LL.take (k + 1) = LL.take k ++ [LL[k]'hkl] := by rw [List.take_add_one, List.getElem?_eq_getElem hkl, Option.toList_some]
        have hlen : (LL.take k).length = k := by rw [List.length_take]; omega
        have hng : (LL[k]'hkl).sign < 0 → ¬ noGap LL := fun h h2 => h2 _ (List.getElem_mem hkl) h
        generalize LL[k]'hkl = m at hx hst hng
        obtain ⟨m1, m2, m3, m4⟩ := m
        have d1 := hx.sign; have d2 := hx.state; have d3 := hx.mn; have d4 := hx.mx
        simp only [] at d1 d2 d3 d4 hng
        by_cases hneg : m1 < 0
        · have f1 : decide (m1 < 0) = true := decide_eq_true hneg
          obtain ⟨x1, x2⟩ := M2.out (hng hneg)
          have X1 := hid x1; have X2 := hid x2
          clear M2 M3 x1 x2 hng hst hx hc hP
          go_wp2_with fail
          go_ret2
          exact ⟨.slice none 0 0, by rw [X1.out]; rfl, by rw [X2.out]; exact World.ownsRow_nil _ _ _ _, HBW.out⟩
        · have f1 : decide (m1 < 0) = false := decide_eq_false hneg
          have hP2 : ∀ m ∈ LL.take (k + 1), ¬ m.sign < 0 := fun m hm => by
            rw [hst] at hm
            rcases List.mem_append.1 hm with hm | hm
            · exact hP.out m hm
            · obtain rfl := List.mem_singleton.1 hm
              exact hneg
          have hs2 : sgns (LL.take (k + 1)) = sgns (LL.take k) ++ [m1] := by rw [hst]; unfold sgns; rw [List.map_append]; rfl
          have hsl : (sgns (LL.take k)).length = k := by unfold sgns; rw [List.length_map, hlen]
          have HP2 := hid hP2; have HS2 := hid hs2; have HSL := hid hsl
          have ho2 := hO.out
          rw [hsl] at ho2
          have HO2 := hid ho2
          have hz : w3.heap.size ≤ wr.heap.size := hB.out.size
          clear hP hO hP2 hs2 hsl ho2 hst hx hc hng hlen M2 M3
          rw [HSL.out]
          have HBA := hid fun (x : Obj) => (hB.out.alloc hB.out.size x)
          go_wp2_with (first | (at_builtin; refine app_one rfl (.tmp 31) (.tmp 37) Try.underlying38 Try.infoInt rfl (by decide) rfl w3.heap.size _ k _ rfl (HO2.out.alloc _) ⟨wr.heap.size, 0, none⟩ (.int .i64 m1) rfl (cell_new1 _ _ _) rfl (by omega) (by simp; omega) ?_; intro v6 w6 ho6 hg6; have HO6 := hid ho6; have HB6 := hid (below_app (HBA.out _) (HO2.out.alloc _) hg6 (Nat.le_refl _) (by simp; omega)); clear ho6 hg6))
          go_roundw
          case rel => exact ⟨k + 1, by omega, by go_num, HP2.out, by rw [HS2.out, List.length_append, ints_append, HSL.out]; exact HO6.out, HB6.out⟩
          case measure => simp [intOf]; omega
      · obtain rfl : nm = k := by omega
        have hfull : LL.take nm = LL := by rw [HNM.out, List.take_length]
        have hP2 := hP.out; have hO2 := hO.out
        rw [hfull] at hP2 hO2
        obtain ⟨x1, x2⟩ := M3.out hP2
        have X1 := hid x1; have X2 := hid x2; have HO2 := hid (own_base hO2 (HW.out _ HB3.out).size)
        have hl : (sgns (LL.take nm)).length = (sgns LL).length := by rw [hfull]
        have HL := hid hl
        clear M2 M3 x1 x2 hfull hP2 hO2 hP hO hl
        go_wp2_with fail
        go_ret2
        exact ⟨.slice A5 (sgns (List.take nm LL)).length c5, by rw [X1.out]; rfl, by rw [X2.out, HL.out]; exact HO2.out, HBW.out⟩
  · have f0 : (CE != 0) = true := by simp [hCE]
    obtain ⟨x1, x2⟩ := M1.out hCE
    have x3 := M4.out hCE
    have X1 := hid x1; have X2 := hid x2
    subst x3
    clear M1 M2 M3 M4 M5 hCE x1 x2
    go_wp2_with (first | (go_at_call 29; refine HLI.out.mono ?_; rintro e w2 ⟨v2, rfl, ho2, hb2⟩; have HB2 := hid hb2; clear ho2 hb2 HLI c0 c1 c3))
    go_ret2
    exact ⟨.slice none 0 0, by rw [X1.out]; rfl, by rw [X2.out]; exact World.ownsRow_nil _ _ _ _, HW.out _ HB2.out⟩
end Go.Proofs.Ytddbnggficlcfaa
