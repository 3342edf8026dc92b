/- The error of a node by itself: groups.first, ostraconref02.own. -/
import Derived.Test.YtimblabaeclhpaaGreatSgn
import Derived.Test.YtimblabaeclhpaaGreatTree
import Derived.BigRegion
import Derived.Outline
import Derived.Deep.DeepCutAuto
namespace Go.Proofs.YtimblabaeclhpaaGreat
open Go.RowKit
/-- The error of a node by itself: N signs, the node's sign even or not, the greatest depth here. -/
def ndE (N : Nat) (ev : Bool) (most : Int) (n : Nd) : Int :=
  if n.kind < 1 ∨ 7 < n.kind then 20 else if n.depth < 0 ∨ 4 < n.depth ∨ most < n.depth then 21 else
  if n.kind = 1 then (if n.sign < 0 ∨ N ≤ n.sign then 23 else if n.turn < 0 ∨ 3 < n.turn ∨ n.state < 0 ∨ 3 < n.state ∨ (n.mir = true ∧ ev = true) then 20 else if n.mn = 0 ∧ n.mx = 0 then 0 else 20)
  else if n.kind = 6 then (if n.mn < 0 ∨ n.mx < n.mn ∨ 9 < n.mx ∨ n.mx < 1 then 22 else if n.sign = 0 ∧ n.turn = 0 ∧ n.mir = false ∧ n.state = 0 then 0 else 20)
  else if n.sign = 0 ∧ n.turn = 0 ∧ n.mir = false ∧ n.state = 0 ∧ n.mn = 0 ∧ n.mx = 0 then 0 else 20
def mostOf (l : List Nd) (i : Nat) : Int := if i = 0 then 0 else if leafB (kd l (i - 1)) = true then dep l (i - 1) else dep l (i - 1) + 1
def evenOf (ss : List Sg) (s : Int) : Bool := (ss.getD s.toNat default).even
def nd (l : List Nd) (i : Nat) : Nd := l.getD i default
theorem nd_at {l : List Nd} {i : Nat} (h : i < l.length) : nd l i = l[i] := by unfold nd; rw [List.getD_eq_getElem?_getD, List.getElem?_eq_getElem h]; rfl
def ownE (ss : List Sg) (l : List Nd) (i : Nat) : Int := ndE ss.length (evenOf ss (nd l i).sign) (mostOf l i) (nd l i)
theorem even_at {ss : List Sg} {k : Nat} (h : k < ss.length) : evenOf ss (k : Int) = ss[k].even := by unfold evenOf; rw [Int.toNat_natCast, List.getD_eq_getElem?_getD, List.getElem?_eq_getElem h]; rfl
theorem cell_old {w : World} {o : Obj} {p : Addr} {u : Value} (h : w.cell? p = some u) : (w.alloc o).cell? p = some u :=
  (World.cell?_alloc_lt w o p (World.block_lt_of_cell? _ _ h)).trans h
theorem cell_here {w : World} {cs : Array Value} {T : TypeId} {n j : Nat} {u : Value} (hn : n = w.heap.size) (h : cs[j]? = some u) : (w.alloc (.cells cs T)).cell? ⟨n, j, none⟩ = some u := by
  subst hn
  rw [World.cell?_alloc_new]
  exact h
theorem mostOf_s {l : List Nd} {i : Nat} (h : i + 1 ≤ l.length) : mostOf l (i + 1) = if leafB (l[i]'h).kind = true then (l[i]'h).depth else (l[i]'h).depth + 1 := by
  unfold mostOf
  rw [if_neg (by omega), Nat.add_sub_cancel, kd_at (by omega), dep_at (by omega)]
set_option maxRecDepth 100000 in
set_option maxHeartbeats 4000000 in
theorem first_any (P : Int) (ss : List Sg) (l : List Nd) (i : Nat) (A A2 : Option Addr) (c c2 : Nat) (hi : i < l.length) (hp : ∀ j, j + 1 = i → 0 ≤ dep l j ∧ dep l j ≤ 4) (hN : ss.length ≤ 1000000) (hn : l.length ≤ 1000000) (w : World) (rs : Sgs w w.heap.size A ss) (rn : Nds w w.heap.size A2 l) :
    Calls Tryz.prog 30 #[.agg #[.int .i64 P, .slice A ss.length c], .agg #[.slice A2 l.length c2], .int .i64 i] w fun e w' => e = .returned (.int .i64 (ownE ss l i)) ∧ Below w.heap.size w w' := by
  obtain ⟨b, o, rfl, hb, hc⟩ := rn.at (by omega)
  have hx := hc i hi
  have hE : ownE ss l i = ndE ss.length (evenOf ss (l[i]'hi).sign) (mostOf l i) (l[i]'hi) := by unfold ownE; rw [nd_at hi]
  have hprev : ∀ j (h : j + 1 = i), NdAt w b (o + j * 8) (l[j]'(by omega)) ∧ mostOf l i = if leafB (l[j]'(by omega)).kind = true then (l[j]'(by omega)).depth else (l[j]'(by omega)).depth + 1 := fun j h => by
    subst h
    exact ⟨hc j (by omega), mostOf_s (by omega)⟩
  have hpd : ∀ j (h : j + 1 = i), 0 ≤ (l[j]'(by omega)).depth ∧ (l[j]'(by omega)).depth ≤ 4 := fun j h => by
    have := hp j h
    rw [dep_at (by omega)] at this
    exact this
  have hm0 : i = 0 → mostOf l i = 0 := fun h => by subst h; rfl
  generalize l[i]'hi = n at hx hE
  have d1 := hx.kind; have d2 := hx.depth; have d3 := hx.sign; have d4 := hx.turn; have d5 := hx.mir; have d6 := hx.state; have d7 := hx.mn; have d8 := hx.mx
  have hev : ∀ k : Nat, k < ss.length → n.sign = k → ∃ b1 o1, A = some ⟨b1, o1, none⟩ ∧ b1 < w.heap.size ∧ w.cell? ⟨b1, o1 + k * 5 + 3, none⟩ = some (.bool (evenOf ss n.sign)) := fun k hk hs => by
    obtain ⟨b1, o1, h1, h2, h3⟩ := rs.at (by omega)
    exact ⟨b1, o1, h1, h2, by rw [hs, even_at hk]; exact (h3 k hk).even⟩
  obtain ⟨E, hE2⟩ : ∃ E, E = ownE ss l i := ⟨_, rfl⟩
  obtain ⟨M, hM⟩ : ∃ M, M = mostOf l i := ⟨_, rfl⟩
  rw [← hE2] at hE ⊢
  rw [← hM] at hE hprev hm0
  generalize evenOf ss n.sign = ev at hE hev
  obtain ⟨kd, dp, sg, tn, mi, st, mn, mx⟩ := n
  simp only [] at d1 d2 d3 d4 d5 d6 d7 d8 hev
  obtain ⟨N, hNN⟩ : ∃ N, N = ss.length := ⟨_, rfl⟩
  obtain ⟨m, hm⟩ : ∃ m, m = l.length := ⟨_, rfl⟩
  rw [← hNN] at hE hN hev ⊢
  rw [← hm] at hn ⊢
  have q0 : (i : Int) < (m : Int) := by omega
  obtain ⟨W0, hW0⟩ : ∃ W0, W0 = ((w.alloc (.cells #[.int .i64 P, .slice A N c] 24)).alloc (.cells #[.slice (some ⟨b, o, none⟩) m c2] 30)).alloc (.cells #[.int .i64 kd, .int .i64 dp, .int .i64 sg, .int .i64 tn, .bool mi, .int .i64 st, .int .i64 mn, .int .i64 mx] 67) := ⟨_, rfl⟩
  have hbW : Below w.heap.size w W0 := by rw [hW0]; exact (((Below.refl _ _).alloc (Nat.le_refl _) _).alloc (by simp) _).alloc (by simp; omega) _
  have hzW : W0.heap.size = w.heap.size + 3 := by rw [hW0]; simp
  have f0 : W0.cell? ⟨w.heap.size, 1, none⟩ = some (.slice A N c) := by rw [hW0]; exact cell_old (cell_old (cell_here rfl rfl))
  have f1 : W0.cell? ⟨w.heap.size + 1, 0, none⟩ = some (.slice (some ⟨b, o, none⟩) m c2) := by rw [hW0]; exact cell_old (cell_here (by simp) rfl)
  have fN : NdAt W0 (w.heap.size + 2) 0 ⟨kd, dp, sg, tn, mi, st, mn, mx⟩ := by rw [hW0]; refine ⟨?_, ?_, ?_, ?_, ?_, ?_, ?_, ?_⟩ <;> exact cell_here (by simp) rfl
  have HE := hid hE; have HEV := hid hev; have HPREV := hid hprev; have HPD := hid hpd; have HM0 := hid hm0; have HW0 := hid hW0; have HBW := hid hbW; have HZ := hid hzW; have HFN := hid fN; have HF0 := hid f0; have HF1 := hid f1
  clear hE hev hx hc rs rn hE2 hNN hm hprev hpd hm0 hW0 hbW hzW f0 f1 fN hp hM
  go_enter Tryz.func30, Tryz.ntmps30
  by_cases hk0 : kd < 1 ∨ 7 < kd
  · have HX : Hid (E = 20) := by rw [HE.out]; exact if_pos hk0
    clear HE HEV HPREV HPD HM0
    go_wp2_with fail
    all_goals first | (exfalso; omega) | (go_ret; exact ⟨by rw [HX.out]; rfl, by rw [← HW0.out]; exact HBW.out⟩)
  · have g1 : decide (kd < 1) = false := decide_eq_false (by omega)
    have g2 : decide (7 < kd) = false := decide_eq_false (by omega)
    go_upto_if 24 with (fail)
    rw [← HW0.out]
    obtain ⟨B0, hB0⟩ : ∃ B0, B0 = w.heap.size := ⟨_, rfl⟩
    rw [← hB0] at HFN HF0 HF1 HZ ⊢
    clear hB0 HW0 d1 d2 d3 d4 d5 d6 d7 d8
    go_cut [8] (fun s8 wx => s8 = .int .i64 M ∧ Below W0.heap.size W0 wx)
    case first =>
      have f1 := HF1.out
      by_cases h0 : i = 0
      · have hm := hid (HM0.out h0)
        subst h0
        clear HE HEV HPREV HPD HM0
        go_wp2_with fail
        go_meet
        exact ⟨by rw [hm.out], Below.refl _ _⟩
      · obtain ⟨j, rfl⟩ : ∃ j, i = j + 1 := ⟨i - 1, by omega⟩
        have hpr := HPREV.out j rfl
        have hpd := HPD.out j rfl
        generalize l[j]'(by omega) = p at hpr hpd
        have hx := hpr.1.below HBW.out hb
        have d1 := hx.kind; have d2 := hx.depth; have d3 := hx.sign; have d4 := hx.turn; have d5 := hx.mir; have d6 := hx.state; have d7 := hx.mn; have d8 := hx.mx
        have hM := hpr.2
        obtain ⟨pk, pd, ps, pt, pm, pst, pmn, pmx⟩ := p
        simp only [] at d1 d2 d3 d4 d5 d6 d7 d8 hM hpd
        have HIL := hid fun W => isLeaf_any pk pd ps pt pm pst pmn pmx W
        have hp1 := hpd.1; have hp2 := hpd.2
        clear HE HEV HPREV HPD HM0 hpr hpd hx
        generalize leafB pk = lf at hM HIL
        cases lf with
        | true =>
          have hM := hid hM
          go_wp2_with (go_at_call 54; refine (HIL.out _).mono ?_; rintro e w3 ⟨rfl, hb3⟩; have HB3 := hid hb3; clear hb3)
          go_meet
          exact ⟨by rw [hM.out]; simp, HB3.out⟩
        | false =>
          have hM := hid hM
          go_wp2_with (go_at_call 54; refine (HIL.out _).mono ?_; rintro e w3 ⟨rfl, hb3⟩; have HB3 := hid hb3; clear hb3)
          go_meet
          exact ⟨by rw [hM.out]; simp, HB3.out⟩
    case rest =>
      obtain ⟨rfl, hbx⟩ := hcut
      have hx := HFN.out.below hbx (by have := HZ.out; omega)
      have d1 := hx.kind; have d2 := hx.depth; have d3 := hx.sign; have d4 := hx.turn; have d5 := hx.mir; have d6 := hx.state; have d7 := hx.mn; have d8 := hx.mx
      have e1 := (hbx.cell (p := ⟨B0, 1, none⟩) (by show B0 < _; have := HZ.out; omega)).trans HF0.out
      have HBX := hid (HBW.out.trans (hbx.mono HBW.out.size))
      have hz : B0 + 2 < wc.heap.size := by have := HZ.out; have := hbx.size; omega
      replace HE := hid (HE.out.trans rfl)
      simp only [] at d1 d2 d3 d4 d5 d6 d7 d8
      clear hx hbx HPREV HPD HM0 HFN HF0 HF1
      obtain ⟨B2, hB2⟩ : ∃ B2, B2 = B0 + 1 + 1 := ⟨_, rfl⟩
      rw [show B0 + 2 = B2 from hB2.symm] at d1 d2 d3 d4 d5 d6 d7 d8 hz
      rw [← hB2]
      have hz0 : B0 < wc.heap.size := by omega
      have HBA : Hid (∀ o, Below w.heap.size w (wc.alloc o)) := fun o => HBX.out.alloc HBX.out.size o
      clear hB2
      by_cases hd : dp < 0 ∨ 4 < dp ∨ M < dp
      · have HX : Hid (E = 21) := by rw [HE.out]; unfold ndE; exact (if_neg hk0).trans (if_pos hd)
        clear HE hk0
        go_wp2_with fail
        all_goals first | (exfalso; omega) | (go_ret; exact ⟨by rw [HX.out]; rfl, by first | exact HBX.out | exact HBA.out _⟩)
      · have g3 : decide (dp < 0) = false := decide_eq_false (by omega)
        have g4 : decide (4 < dp) = false := decide_eq_false (by omega)
        have g5 : decide (M < dp) = false := decide_eq_false (by omega)
        replace HE := hid ((HE.out.trans (if_neg hk0)).trans (if_neg hd))
        simp only [] at HE
        clear hk0 hd
        by_cases hk1 : kd = 1
        · replace HE := hid (HE.out.trans (if_pos hk1))
          subst hk1
          by_cases hs : sg < 0 ∨ (N : Int) ≤ sg
          · have HX := hid (HE.out.trans (if_pos hs))
            clear HE
            go_wp2_with fail
            all_goals first | (exfalso; omega) | (go_ret; exact ⟨by rw [HX.out]; rfl, by first | exact HBX.out | exact HBA.out _⟩)
          · replace HE := hid (HE.out.trans (if_neg hs))
            obtain ⟨k, rfl⟩ : ∃ k : Nat, sg = k := ⟨sg.toNat, by omega⟩
            have g6 : decide ((k : Int) < 0) = false := decide_eq_false (by omega)
            have g7 : decide ((N : Int) ≤ (k : Int)) = false := decide_eq_false (by omega)
            have g7' : (k : Int) < (N : Int) := by omega
            obtain ⟨b1, o1, rfl, hb1, hce⟩ := HEV.out k (by omega) rfl
            have e2 := (HBX.out.cell (p := ⟨b1, o1 + k * 5 + 3, none⟩) hb1).trans hce
            have hb1c : b1 < wc.heap.size := Nat.lt_of_lt_of_le hb1 HBX.out.size
            clear HEV hce hs
            cases mi with
            | false =>
              by_cases ha : tn < 0 ∨ 3 < tn ∨ st < 0 ∨ 3 < st
              · have HX := hid (HE.out.trans (if_pos (by omega)))
                clear HE
                go_wp2_with fail
                all_goals first | (exfalso; omega) | (go_ret; exact ⟨by rw [HX.out]; rfl, HBA.out _⟩)
              · replace HE := hid (HE.out.trans (if_neg (by simp; omega)))
                have g8 : decide (tn < 0) = false := decide_eq_false (by omega)
                have g9 : decide (3 < tn) = false := decide_eq_false (by omega)
                have g10 : decide (st < 0) = false := decide_eq_false (by omega)
                have g11 : decide (3 < st) = false := decide_eq_false (by omega)
                clear ha
                go_wp2_with fail
                go_region
                go_wp2_with fail
                all_goals
                  go_ret
                  refine ⟨congrArg (fun x => Ending.returned (.int .i64 x)) (Eq.trans ?_ HE.out.symm), by first | exact HBA.out _ | exact (HBA.out _).drew | exact below_drewN (HBA.out _) _⟩
                  first | rfl | (split <;> first | rfl | (exfalso; omega))
            | true =>
              cases ev with
              | true =>
                have HX := hid (HE.out.trans (if_pos (by simp)))
                clear HE
                go_wp2_with fail
                all_goals first | (exfalso; omega) | (go_ret; exact ⟨by rw [HX.out]; rfl, HBA.out _⟩)
              | false =>
                by_cases ha : tn < 0 ∨ 3 < tn ∨ st < 0 ∨ 3 < st
                · have HX := hid (HE.out.trans (if_pos (by omega)))
                  clear HE
                  go_wp2_with fail
                  all_goals first | (exfalso; omega) | (go_ret; exact ⟨by rw [HX.out]; rfl, HBA.out _⟩)
                · replace HE := hid (HE.out.trans (if_neg (by simp; omega)))
                  have g8 : decide (tn < 0) = false := decide_eq_false (by omega)
                  have g9 : decide (3 < tn) = false := decide_eq_false (by omega)
                  have g10 : decide (st < 0) = false := decide_eq_false (by omega)
                  have g11 : decide (3 < st) = false := decide_eq_false (by omega)
                  clear ha
                  go_wp2_with fail
                  go_region
                  go_wp2_with fail
                  all_goals
                    go_ret
                    refine ⟨congrArg (fun x => Ending.returned (.int .i64 x)) (Eq.trans ?_ HE.out.symm), by first | exact HBA.out _ | exact (HBA.out _).drew | exact below_drewN (HBA.out _) _⟩
                    first | rfl | (split <;> first | rfl | (exfalso; omega))
        · replace HE := hid (HE.out.trans (if_neg hk1))
          have g6 : (kd == 1) = false := by simpa using hk1
          clear HEV
          by_cases hk6 : kd = 6
          · replace HE := hid (HE.out.trans (if_pos hk6))
            subst hk6
            by_cases hg : mn < 0 ∨ mx < mn ∨ 9 < mx ∨ mx < 1
            · have HX := hid (HE.out.trans (if_pos hg))
              clear HE
              go_wp2_with fail
              all_goals first | (exfalso; omega) | (go_ret; exact ⟨by rw [HX.out]; rfl, HBA.out _⟩)
            · replace HE := hid (HE.out.trans (if_neg hg))
              have g8 : decide (mn < 0) = false := decide_eq_false (by omega)
              have g9 : decide (mx < mn) = false := decide_eq_false (by omega)
              have g10 : decide (9 < mx) = false := decide_eq_false (by omega)
              have g11 : decide (mx < 1) = false := decide_eq_false (by omega)
              clear hg
              cases mi
              all_goals
                go_wp2_with fail
                go_region
                go_wp2_with fail
                all_goals
                  go_ret
                  refine ⟨congrArg (fun x => Ending.returned (.int .i64 x)) (Eq.trans ?_ HE.out.symm), by first | exact HBA.out _ | exact (HBA.out _).drew | exact below_drewN (HBA.out _) _⟩
                  first | rfl | (split <;> first | rfl | (exfalso; omega)) | (simp; done) | (simp; omega)
          · replace HE := hid (HE.out.trans (if_neg hk6))
            have g7 : (kd == 6) = false := by simpa using hk6
            clear hk1 hk6
            cases mi
            all_goals
              go_wp2_with fail
              all_goals
                go_ret
                refine ⟨congrArg (fun x => Ending.returned (.int .i64 x)) (Eq.trans ?_ HE.out.symm), by first | exact HBA.out _ | exact (HBA.out _).drew | exact below_drewN (HBA.out _) _⟩
                first | rfl | (split <;> first | rfl | (exfalso; omega)) | (simp; done) | (simp; omega)
end Go.Proofs.YtimblabaeclhpaaGreat
