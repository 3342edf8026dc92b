/- ostraconref01.Same and SameValues, of a list and a copy of it. -/
import Derived.Test.YtddbnggficlcfaaSameT
import Derived.Test.YtddbnggficlcfaaCopy2
namespace Go.Proofs.Ytddbnggficlcfaa
open Go.RowKit
set_option maxRecDepth 100000 in
set_option maxHeartbeats 2000000 in
theorem sameVals_any (l : List Vl) (Aa Ab : Option Addr) (ca cb : Nat) (hl : l.length ≤ 1000000) (w : World) (B : Nat) (ra : Vls w B Aa l) (rb : Vls w B Ab l) :
    Calls Try.prog 64 #[.slice Aa l.length ca, .slice Ab l.length cb] w fun e w' => e = .returned (.bool true) ∧ ∃ q, w' = w.drewN q := by
  have RA := hid ra; have RB := hid rb
  obtain ⟨n, hn⟩ : ∃ n, n = l.length := ⟨_, rfl⟩
  rw [← hn] at hl ⊢
  have HN := hid hn
  clear ra rb hn
  go_enter Try.func64, Try.ntmps64
  go_wp2_with fail
  go_loopw [5] (fun kv wr => ∃ k : Nat, k ≤ n ∧ kv = .int .i64 k ∧ ∃ q, wr = w.drewN q) (fun kv _ => n - (intOf kv).toNat)
  case atStart => exact ⟨0, by omega, rfl, 0, rfl⟩
  case round =>
    obtain ⟨k, hk, rfl, q, rfl⟩ := hrel
    by_cases hkn : k < n
    · have hka : k < l.length := by rw [← HN.out]; exact hkn
      have hq1 : (k : Int) < (n : Int) := by omega
      obtain ⟨b1, o1, rfl, _, hc1⟩ := RA.out.at (by omega)
      obtain ⟨b2, o2, rfl, _, hc2⟩ := RB.out.at (by omega)
      have hx := hc1 k hka; have hy := hc2 k hka
      generalize l[k]'hka = x at hx hy
      have d1 := hx.kind; have d2 := hx.text; have d3 := hx.frm; have d4 := hx.to
      have e1 := hy.kind; have e2 := hy.text; have e3 := hy.frm; have e4 := hy.to
      clear hx hy hc1 hc2
      obtain ⟨x1, x2, x3, x4⟩ := x
      simp only [] at d1 d2 d3 d4 e1 e2 e3 e4
      go_wp2_with fail
      go_quiet (fail)
      go_wp2_with fail
      go_roundw
      case rel => exact ⟨k + 1, by omega, by go_num, _, by first | rfl | exact World.drewN_drewN _ _ _⟩
      case measure => simp [intOf]; omega
    · obtain rfl : k = n := by omega
      go_wp2_with fail
      go_ret
      exact ⟨rfl, _, rfl⟩
theorem core_at {ss ss' : List Sg} (h : ss'.map Sg.core = ss.map Sg.core) {k : Nat} (hk : k < ss.length) (hk' : k < ss'.length) : ss'[k].core = ss[k].core := by
  have := congrArg (fun l => l[k]?) h
  simpa [List.getElem?_eq_getElem hk, List.getElem?_eq_getElem hk'] using this
set_option maxRecDepth 100000 in
set_option maxHeartbeats 4000000 in
theorem sameList_any (P : Int) (ss ss' : List Sg) (hcore : ss'.map Sg.core = ss.map Sg.core) (Aa Ab : Option Addr) (ca cb : Nat) (hl : ss.length ≤ 1000000) (hv : ∀ s ∈ ss, s.vals.length ≤ 1000000) (w : World) (ra : Sgs w w.heap.size Aa ss') (rb : Sgs w w.heap.size Ab ss) :
    Calls Try.prog 21 #[.agg #[.int .i64 P, .slice Aa ss'.length ca], .agg #[.int .i64 P, .slice Ab ss.length cb]] w fun e w' => e = .returned (.bool true) ∧ Below w.heap.size w w' := by
  have hlen : ss'.length = ss.length := by have := congrArg List.length hcore; simpa using this
  rw [hlen]
  obtain ⟨n, hn⟩ : ∃ n, n = ss.length := ⟨_, rfl⟩
  obtain ⟨w1, hw1⟩ : ∃ w1, w1 = (w.alloc (.cells #[.int .i64 P, .slice Aa n ca] 24)).alloc (.cells #[.int .i64 P, .slice Ab n cb] 24) := ⟨_, rfl⟩
  have hb1 : Below w.heap.size w w1 := by rw [hw1]; exact ((Below.refl _ _).alloc (Nat.le_refl _) _).alloc (by simp) _
  have hz1 : w1.heap.size = w.heap.size + 2 := by rw [hw1]; simp
  have c0 : w1.cell? ⟨w.heap.size, 0, none⟩ = some (.int .i64 P) := by rw [hw1]; exact cell_old (cell_here rfl rfl)
  have c1 : w1.cell? ⟨w.heap.size, 1, none⟩ = some (.slice Aa n ca) := by rw [hw1]; exact cell_old (cell_here rfl rfl)
  have c2 : w1.cell? ⟨w.heap.size + 1, 0, none⟩ = some (.int .i64 P) := by rw [hw1]; exact cell_here (by simp) rfl
  have c3 : w1.cell? ⟨w.heap.size + 1, 1, none⟩ = some (.slice Ab n cb) := by rw [hw1]; exact cell_here (by simp) rfl
  have RA := hid (ra.below hb1); have RB := hid (rb.below hb1); have HCO := hid hcore; have HV := hid hv; have HLEN := hid hlen
  rw [← hn] at hl ⊢
  have HN := hid hn; have HW1 := hid hw1; have HB1 := hid hb1; have HZ1 := hid hz1
  clear hn hw1 ra rb hb1 hv hcore hlen hz1
  go_enter Try.func21, Try.ntmps21
  go_upto_region 1 with (fail)
  rw [← HW1.out]
  obtain ⟨B0, hB0⟩ : ∃ B0, B0 = w.heap.size := ⟨_, rfl⟩
  obtain ⟨B1, hB1⟩ : ∃ B1, B1 = B0 + 1 := ⟨_, rfl⟩
  have hzz : B1 < w1.heap.size := by have := HZ1.out; omega
  have hz0 : B0 < w1.heap.size := by omega
  have HW : Hid (∀ wr, Below w1.heap.size w1 wr → Below w.heap.size w wr) := fun wr h => HB1.out.trans (h.mono (by omega))
  rw [← hB0] at c0 c1 c2 c3 RA RB ⊢
  rw [← hB1] at c2 c3 ⊢
  have hlt : B0 < B1 := by omega
  clear hB0 HW1 HB1 HZ1 hB1
  go_wp2_with fail
  have HC1 := hid fun (wr : World) (h : Below w1.heap.size w1 wr) => (h.cell (p := ⟨B0, 1, none⟩) hz0).trans c1
  have HC3 := hid fun (wr : World) (h : Below w1.heap.size w1 wr) => (h.cell (p := ⟨B1, 1, none⟩) hzz).trans c3
  clear c0 c1 c2 c3
  go_loopw [5] (fun kv wr => ∃ k : Nat, k ≤ n ∧ kv = .int .i64 k ∧ Hid (Below w1.heap.size w1 wr)) (fun kv _ => n - (intOf kv).toNat)
  case atStart => exact ⟨0, by omega, rfl, hid (Below.refl _ _)⟩
  case round =>
    obtain ⟨k, hk, rfl, hB⟩ := hrel
    have p1 := HC1.out wr hB.out; have p3 := HC3.out wr hB.out
    by_cases hkn : k < n
    · have hkb : k < ss.length := by rw [← HN.out]; exact hkn
      have hka : k < ss'.length := by rw [HLEN.out]; exact hkb
      have hq1 : (k : Int) < (n : Int) := by omega
      obtain ⟨b1, o1, rfl, hb1, hc1⟩ := RA.out.at (by omega)
      obtain ⟨b2, o2, rfl, hb2, hc2⟩ := RB.out.at (by omega)
      have hx := (hc1 k hka).below hB.out (by omega); have hy := (hc2 k hkb).below hB.out (by omega)
      have hxv := (RA.out.vls _ (List.getElem_mem hka)).below (hB.out.mono (by omega))
      have hyv := (RB.out.vls _ (List.getElem_mem hkb)).below (hB.out.mono (by omega))
      have hcc := core_at HCO.out hkb hka
      have hvv := HV.out _ (List.getElem_mem hkb)
      generalize ss'[k]'hka = x at hx hxv hcc
      generalize ss[k]'hkb = y at hy hyv hcc hvv
      obtain ⟨x1, x2, x3, x4, x5, x6, x7⟩ := x
      obtain ⟨y1, y2, y3, y4, y5, y6, y7⟩ := y
      simp only [Sg.core, Sg.mk.injEq, and_true] at hcc
      obtain ⟨rfl, rfl, rfl, rfl, rfl⟩ := hcc
      have d1 := hx.code; have d2 := hx.wide; have d3 := hx.high; have d4 := hx.even; have d5 := hx.vals
      have e1 := hy.code; have e2 := hy.wide; have e3 := hy.high; have e4 := hy.even; have e5 := hy.vals
      have HSV := hid fun (W : World) (h : Below wr.heap.size wr W) => sameVals_any x5 x6 y6 x7 y7 hvv W B0 (hxv.below (h.mono (by have := hB.out.size; omega))) (hyv.below (h.mono (by have := hB.out.size; omega)))
      simp only [] at d1 d2 d3 d4 d5 e1 e2 e3 e4 e5
      clear hx hy hc1 hc2 hxv hyv hvv
      have l1 : b1 < wr.heap.size := by have := hB.out.size; omega
      have l2 : b2 < wr.heap.size := by have := hB.out.size; omega
      have l3 : B0 < wr.heap.size := by have := hB.out.size; omega
      have l4 : B1 < wr.heap.size := by have := hB.out.size; omega
      generalize x5.length = nv at *
      go_wp2_with fail
      go_region
      all_goals
        have HBA : Hid (∀ x y : Obj, Below wr.heap.size wr ((wr.alloc x).alloc y)) := fun x y => ((Below.refl _ _).alloc (Nat.le_refl _) x).alloc (by simp) y
        go_wp2_with (first | (go_at_call 64; refine (HSV.out _ (by first | exact HBA.out _ _ | exact (HBA.out _ _).drew | exact below_drewN (HBA.out _ _) _)).mono ?_; rintro e w5 ⟨rfl, q, rfl⟩))
        go_roundw
        case rel => exact ⟨k + 1, by omega, by go_num, hB.out.trans ((by first | exact below_drewN (HBA.out _ _) _ | exact below_drewN (HBA.out _ _).drew _ | exact below_drewN (below_drewN (HBA.out _ _) _) _ : Below wr.heap.size wr _).mono hB.out.size)⟩
        case measure => simp [intOf]; omega
    · obtain rfl : k = n := by omega
      go_wp2_with fail
      go_ret
      exact ⟨rfl, HW.out _ hB.out⟩
end Go.Proofs.Ytddbnggficlcfaa
