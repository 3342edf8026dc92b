/- WALK: least. -/
import Derived.Test.YtaoddenadfmdbaaTbM
import Derived.Deep.DeepCutAuto
namespace Go.Proofs.Ytaoddenadfmdbaa
open Go.RowKit Go.Maps
set_option maxRecDepth 100000 in
set_option maxHeartbeats 4000000 in
theorem least_any {cs : List Cl} {par : List Int} {n B : Nat} {A2 A3 : Option Addr} {c2 c3 gq cq : Nat} {D : DataW Unit} {K : Nat} {rv : Value} (hc : CsOk cs n) (hpl : par.length ≤ 1000) (tab prev : Nat → Nat → Nat) (htb : ∀ a b, tab a b ≤ 1048576 ∧ prev a b ≤ 1048576) (g ct r x j : Nat) (hx : x < (posL cs).length) (hj : j ≤ par.length) (hr : r ≤ 1000) (w : World) (h : Sx cs par n B A2 A3 c2 c3 gq cq D K rv w)
    (h1 : (posAt cs x).1 < cs.length → TabAt w g par.length (num cs ((posAt cs x).1 + 1) 0) j (tab (num cs ((posAt cs x).1 + 1) 0) j))
    (h2 : j < par.length → TabAt w g par.length x (j + 1) (tab x (j + 1)))
    (h3 : 0 < r → ∃ gr cr g' c', rv = .slice (some ⟨gr, 0, none⟩) r cr ∧ w.cell? ⟨gr, r - 1, none⟩ = some (.slice (some ⟨g', 0, none⟩) (posL cs).length c') ∧ (x + 1 < (posL cs).length → ∀ j', j' ≤ par.length → TabAt w g' par.length (x + 1) j' (prev (x + 1) j'))) :
    Calls Try.prog 53 #[.pointer (some ⟨B + 1, 0, none⟩), .slice (some ⟨g, 0, none⟩) (posL cs).length ct, .int .i64 (x : Int), .int .i64 (j : Int), .int .i64 (r : Int)] w fun e w' => (∃ v : Nat, e = .returned (.int .i64 (v : Int)) ∧ LstOk cs par tab prev r x j v) ∧ Below w.heap.size w w' := by
  have hnp := hc.np; have hcl := hc.len
  have pc3 := h.s.cells.c3
  obtain ⟨pp1, pp2⟩ := h.ps x hx
  have hpx := posAt_ok hx
  have hnx := num_posAt hx
  obtain ⟨np, hnpe⟩ : ∃ np, np = (posL cs).length := ⟨_, rfl⟩
  obtain ⟨m, hm⟩ : ∃ m, m = par.length := ⟨_, rfl⟩
  have HX := hid h; have HC := hid hc; have HNP := hid hnpe; have HM := hid hm
  have hqx : (x : Int) < (np : Int) := by rw [hnpe]; exact Int.ofNat_lt.2 hx
  rw [← hnpe] at pc3 hnp h3 hx ⊢
  rw [← hm] at hpl hj h1 h2 h3
  obtain ⟨i, hi⟩ : ∃ i, i = (posAt cs x).1 := ⟨_, rfl⟩
  obtain ⟨k, hk⟩ : ∃ k, k = (posAt cs x).2 := ⟨_, rfl⟩
  rw [← hi] at pp1 hpx hnx h1; rw [← hk] at pp2 hpx hnx
  have HI := hid hi; have HK := hid hk; have H1 := hid h1; have H2 := hid h2; have H3 := hid h3; have HTB := hid htb; have HPX := hid hpx; have HNX := hid hnx
  clear h hc hnpe hm hi hk h1 h2 h3 htb hpx hnx
  obtain ⟨w1, hw1⟩ : ∃ W, W = w.alloc (.cells #[.int .i64 (i : Int), .int .i64 (k : Int)] 98) := ⟨_, rfl⟩
  have hb1 : Below w.heap.size w w1 := by rw [hw1]; exact (Below.refl _ _).alloc (Nat.le_refl _) _
  have d0 : w1.cell? ⟨w.heap.size, 0, none⟩ = some (.int .i64 (i : Int)) := by rw [hw1]; exact cell_here rfl rfl
  have d1 : w1.cell? ⟨w.heap.size, 1, none⟩ = some (.int .i64 (k : Int)) := by rw [hw1]; exact cell_here rfl rfl
  have hs1 : w.heap.size < w1.heap.size := by rw [hw1]; simp
  have HW1 := hid hw1; have HB1 := hid hb1; have HS1 := hid hs1
  clear hw1 hs1
  go_enter Try.func53, Try.ntmps53
  go_upto_region 2 with (fail)
  rw [← HW1.out]
  clear HW1 pc3 pp1 pp2
  have X1 := hid (HX.out.below hb1)
  have pc1 := X1.out.s.cells.c1; have pc2 := X1.out.s.cells.c2; have pc4 := X1.out.s.cells.c4; have pc5 := X1.out.s.cells.c5
  obtain ⟨m2, hm2⟩ : ∃ m, m = cs.length := ⟨_, rfl⟩
  rw [← hm2] at pc1
  rw [← HM.out] at pc2
  have HM2 := hid hm2
  clear hm2 hb1
  by_cases hil : i = m2
  · subst hil
    have e1 : ((i : Int) == (i : Int)) = true := by simp
    go_quiet (fail)
    by_cases hr0 : 0 < r
    · have e2 : decide ((0 : Int) < (r : Int)) = true := decide_eq_true (by omega)
      go_wp2_with fail
      go_ret
      refine ⟨⟨1048576, rfl, by omega, fun _ h => by omega, fun h => ?_, fun h => ?_, fun h => ?_, fun h => ?_⟩, below_drewN HB1.out _⟩ <;> (rw [← HI.out, ← HM2.out] at h; omega)
    · have e2 : decide ((0 : Int) < (r : Int)) = false := decide_eq_false (by omega)
      have hw : wrap64 ((m : Int) - (j : Int)) = ((m - j : Nat) : Int) := by unfold wrap64; omega
      go_wp2_with fail
      go_ret
      have e3 : ((m - j : Nat) : Int) = (m : Int) - (j : Int) := by omega
      refine ⟨⟨m - j, by rw [e3]; rfl, by omega, fun _ h => by rw [HM.out]; exact Nat.le_refl _, fun h => ?_, fun h => ?_, fun h => ?_, fun h => ?_⟩, below_drewN HB1.out _⟩ <;> (rw [← HI.out, ← HM2.out] at h; omega)
  · have e1 : ((i : Int) == (m2 : Int)) = false := by simp; omega
    go_quiet (fail)
    go_upto_region 7 with (fail)
    have him : i < m2 := by
      rcases HPX.out with ⟨h, _⟩ | ⟨h, _⟩
      · rw [HM2.out]; exact h
      · exact absurd (h.trans HM2.out.symm) hil
    have hic : i < cs.length := by rw [← HM2.out]; exact him
    obtain ⟨bA, oA, rfl, hbA, hcla⟩ := X1.out.cl.at (by omega)
    have hca := hcla i hic
    have hrsg := X1.out.cl.sgs _ (List.getElem_mem hic)
    have hck := HC.out.ok _ (List.getElem_mem hic)
    have hsg20 := HC.out.sg _ (List.getElem_mem hic)
    rw [← cl_at hic] at hca hrsg hck hsg20
    have hkx : (k : Int) ≤ (cl cs i).mx := by
      rcases HPX.out with ⟨_, h⟩ | ⟨h, _⟩
      · have := hck.lo; have := hck.le; omega
      · omega
    have HCK := hid hck; have HRS := hid hrsg; have HS20 := hid hsg20
    have HCA := hid hca
    obtain ⟨mX, hmX⟩ : ∃ m : Int, m = (cl cs i).mx := ⟨_, rfl⟩
    obtain ⟨mN, hmN⟩ : ∃ m : Int, m = (cl cs i).mn := ⟨_, rfl⟩
    obtain ⟨sa, hsa⟩ : ∃ s, s = (cl cs i).sa := ⟨_, rfl⟩
    obtain ⟨sc, hsc⟩ : ∃ s, s = (cl cs i).sc := ⟨_, rfl⟩
    obtain ⟨sl, hsl⟩ : ∃ s, s = (cl cs i).signs.length := ⟨_, rfl⟩
    have HPM := hid fun (W : World) (hW : Below w1.heap.size w1 W) => (show (W.cell? ⟨bA, oA + i * 3, none⟩ = some (.int .i64 mN) ∧ W.cell? ⟨bA, oA + i * 3 + 1, none⟩ = some (.int .i64 mX) ∧ W.cell? ⟨bA, oA + i * 3 + 2, none⟩ = some (.slice sa sl sc)) ∧ W.cell? ⟨w.heap.size, 0, none⟩ = some (.int .i64 (i : Int)) ∧ W.cell? ⟨w.heap.size, 1, none⟩ = some (.int .i64 (k : Int)) ∧ W.cell? ⟨B + 1, 1, none⟩ = some (.slice (some ⟨bA, oA, none⟩) m2 c2) from by
      have h4 := cell_keep hW HCA.out.mn
      have h5 := cell_keep hW HCA.out.mx
      have h6 := cell_keep hW HCA.out.sg
      rw [← hmN] at h4; rw [← hmX] at h5; rw [← hsa, ← hsl, ← hsc] at h6
      exact ⟨⟨h4, h5, h6⟩, cell_keep hW d0, cell_keep hW d1, cell_keep hW pc1⟩)
    have HMX := hid hmX; have HMN := hid hmN; have HSA := hid hsa; have HSC := hid hsc; have HSL := hid hsl
    rw [← hmX] at hkx
    have hx9 : mX ≤ 9 := by rw [hmX]; exact hck.hi
    have q0 : (i : Int) < (m2 : Int) := by omega
    clear hca hrsg hck hcla hmX hmN hsa hsc hsl hsg20 d0 d1 pc1 e1
    refine region_call [0, 1, 2, 3, 4, 5, 6, 7] [8] [9] (fun W => Below w1.heap.size w1 W) (by kernel_rfl) (by kernel_rfl) (fun d _ _ _ _ h => by cases d <;> exact h) (below_drewN (Below.refl _ _) nq).drew ?_
    apply Exists.intro
    simp only [List.map_cons, List.map_nil, List.getD_cons_zero, List.getD_cons_succ]
    refine ⟨⟨_, Or.inl ⟨by rfl, fun W hW => by go_simp; rfl⟩, _, Or.inl ⟨by rfl, fun W hW => by go_simp; rfl⟩, _, Or.inl ⟨by rfl, fun W hW => by go_simp; rfl⟩, .slice (some ⟨bA, oA, none⟩) m2 c2, Or.inl ⟨by rfl, fun W hW => by have p := (HPM.out W hW).2.2.2; go_simp⟩, _, Or.inl ⟨by rfl, fun W hW => by go_simp; rfl⟩, .int .i64 (i : Int), Or.inl ⟨by rfl, fun W hW => by have p := (HPM.out W hW).2.1; go_simp⟩, .pointer (some ⟨bA, oA + i * 3, none⟩), Or.inl ⟨by rfl, fun W hW => by go_simp⟩, .agg #[.int .i64 mN, .int .i64 mX, .slice sa sl sc], Or.inl ⟨by rfl, fun W hW => by have p := (HPM.out W hW).1.1; have p2 := (HPM.out W hW).1.2.1; have p3 := (HPM.out W hW).1.2.2; go_simp⟩, rfl⟩, ?_⟩
    simp only [Act.put, List.setIfInBounds_toArray, List.set_cons_zero, List.set_cons_succ]
    obtain ⟨w2, hw2⟩ : ∃ W, W = (w1.drewN nq).drew := ⟨_, rfl⟩
    have HB2 := hid (show Below w1.heap.size w1 w2 by rw [hw2]; exact (below_drewN (Below.refl _ _) nq).drew)
    have hz2 : w2.heap.size = w1.heap.size := by rw [hw2]; rfl
    rw [← hw2]
    clear hw2
    refine wpMid_step rfl (fun K hK => ?_)
    go_simp
    have HA2 := hid (show Below w1.heap.size w1 (w2.alloc (.cells #[.int .i64 0, .int .i64 0, .slice none 0 0] 30)) from HB2.out.alloc (by omega) _)
    refine hK.out _ _ HA2.out ?_
    clear hK K
    simp only [wpMid]
    go_upto_region 8 with (fail)
    obtain ⟨w3, hw3⟩ : ∃ W, W = w2.alloc (.cells #[.int .i64 mN, .int .i64 mX, .slice sa sl sc] 30) := ⟨_, rfl⟩
    have hb3 : Below w1.heap.size w1 w3 := by rw [hw3]; exact HB2.out.alloc (by omega) _
    have e0 : w3.cell? ⟨w2.heap.size, 0, none⟩ = some (.int .i64 mN) := by rw [hw3]; exact cell_here rfl rfl
    have e1 : w3.cell? ⟨w2.heap.size, 1, none⟩ = some (.int .i64 mX) := by rw [hw3]; exact cell_here rfl rfl
    have e2 : w3.cell? ⟨w2.heap.size, 2, none⟩ = some (.slice sa sl sc) := by rw [hw3]; exact cell_here rfl rfl
    rw [← hw3]
    rw [hz2] at e0 e1 e2
    obtain ⟨b3, hb3e⟩ : ∃ b, b = w1.heap.size := ⟨_, rfl⟩
    rw [← hb3e] at e0 e1 e2 ⊢
    have HB3 := hid hb3
    have HBW3 := hid (HB1.out.trans (hb3.mono HB1.out.size))
    have HF := hid fun (W : World) (hW : Below w3.heap.size w3 W) => (show ((W.cell? ⟨w.heap.size, 0, none⟩ = some (.int .i64 (i : Int)) ∧ W.cell? ⟨w.heap.size, 1, none⟩ = some (.int .i64 (k : Int))) ∧ (W.cell? ⟨b3, 0, none⟩ = some (.int .i64 mN) ∧ W.cell? ⟨b3, 1, none⟩ = some (.int .i64 mX) ∧ W.cell? ⟨b3, 2, none⟩ = some (.slice sa sl sc)) ∧ Sx cs par n B (some ⟨bA, oA, none⟩) A3 c2 c3 gq cq D K rv W ∧ W.cell? ⟨B + 1, 2, none⟩ = some (.slice A3 m c3)) ∧ Below w.heap.size w W from by
      have h4 := hb3.trans (hW.mono hb3.size)
      obtain ⟨_, h5, h6, _⟩ := HPM.out W h4
      exact ⟨⟨⟨h5, h6⟩, ⟨cell_keep hW e0, cell_keep hW e1, cell_keep hW e2⟩, X1.out.below h4, cell_keep h4 pc2⟩, HB1.out.trans (h4.mono HB1.out.size)⟩)
    have HB3Z := hid (show B + 2 ≤ w3.heap.size by have := (HF.out w3 (Below.refl _ _)).1.2.2.1.kb; have := (HF.out w3 (Below.refl _ _)).1.2.2.1.kw; omega)
    clear hw3 hb3 hb3e e0 e1 e2 hz2 HA2 HB2 HPM pc2 pc4 pc5
    obtain ⟨⟨⟨f1, f2⟩, ⟨f3, f4, f5⟩, f6, f7⟩, f8⟩ := HF.out w3 (Below.refl _ _)
    have g4 := f6.s.cells.c4
    clear f5 f6 f7 f8
    go_upto_if 52 with (fail)
    go_cut [12] (fun v12 wx => ∃ b : Nat, v12 = .int .i64 (b : Int) ∧ b ≤ 1048576 ∧ Hid (mN ≤ (k : Int) → b ≤ tab (num cs (i + 1) 0) j) ∧ Hid (Below w3.heap.size w3 wx))
    case first =>
      by_cases hmk : mN ≤ (k : Int)
      · have q1 : decide (mN ≤ (k : Int)) = true := decide_eq_true hmk
        have hpn := next_ok hic
        have hnl := num_lt hpn
        have hi1 : i + 1 ≤ 1000000 := by have := HM2.out; omega
        have hlk : ∀ W, Below w3.heap.size w3 W → (Instr.lookup 91 (.map (some B)) (.agg #[.int .i64 ((i : Int) + 1), .int .i64 0]) false).run Try.prog W = .ok (.int .i64 (num cs (i + 1) 0 : Nat)) W := fun W hW => (HF.out W hW).1.2.2.1.look hpn hi1 (by omega) W (Below.refl _ _)
        obtain ⟨gx, cx, t1, t2⟩ := H1.out hic
        have t3 := fun W (hW : Below w3.heap.size w3 W) => cell_keep ((HBW3.out.trans (hW.mono HBW3.out.size))) t1
        have t4 := fun W (hW : Below w3.heap.size w3 W) => cell_keep ((HBW3.out.trans (hW.mono HBW3.out.size))) t2
        have HTV := hid (HTB.out (num cs (i + 1) 0) j).1
        obtain ⟨tv, htv⟩ : ∃ t, t = tab (num cs (i + 1) 0) j := ⟨_, rfl⟩
        rw [← htv] at t2 HTV
        have t4 : ∀ W, Below w3.heap.size w3 W → W.cell? ⟨gx, j, none⟩ = some (.int .i64 (tv : Int)) := by rw [htv]; exact t4
        have HTE := hid (Nat.le_of_eq htv)
        clear htv
        rw [← HNP.out] at hnl
        generalize num cs (i + 1) 0 = y at hlk t1 t3 hnl
        have q2 : (y : Int) < (np : Int) := by omega
        have q3 : (j : Int) < (m : Int) + 1 := by omega
        have hwi : IntKind.i64.wrap ((i : Int) + 1) = (i : Int) + 1 := IntWalk.i64_in _ (by omega)
        have hwi2 : wrap64 ((i : Int) + 1) = (i : Int) + 1 := by unfold wrap64; omega
        have t3' := t3 w3 (Below.refl _ _)
        have t4' := t4 w3 (Below.refl _ _)
        have hlk2 := fun n => hlk (w3.drewN n) (below_drewN (Below.refl _ _) n)
        clear hlk t1 t2 t3 t4 hpn hnl hmk
        rw [q1]
        go_upto_region 9 with (fail)
        go_quiet (fail)
        go_wp2_with fail
        go_meet
        exact ⟨tv, rfl, HTV.out, hid fun _ => HTE.out, hid (below_drewN (Below.refl _ _) _)⟩
      · have q1 : decide (mN ≤ (k : Int)) = false := decide_eq_false hmk
        have HMK := hid hmk
        clear hmk
        rw [q1]
        go_wp2_with fail
        go_meet
        exact ⟨1048576, rfl, by omega, hid fun h => by have := HMK.out; omega, hid (Below.refl _ _)⟩
    case rest =>
      obtain ⟨bv, rfl, hbv, HEP, hW4⟩ := hcut
      have hff := (HF.out wc hW4.out).1
      obtain ⟨⟨f1, f2⟩, ⟨f3, f4, f5⟩, _, f7⟩ := hff
      clear g4
      have q3 : (j : Int) < (m : Int) + 1 := by omega
      go_upto_if 74 with (fail)
      go_cut [12] (fun v12 wx => ∃ b : Nat, v12 = .int .i64 (b : Int) ∧ b ≤ bv ∧ Hid (j < m → b ≤ 1 + tab x (j + 1)) ∧ wx = wc)
      case first =>
        by_cases hjm : j < m
        · have q1 : decide ((j : Int) < (m : Int)) = true := decide_eq_true (by omega)
          obtain ⟨gx, cx, t1, t2⟩ := H2.out hjm
          have hkk := HBW3.out.trans (hW4.out.mono HBW3.out.size)
          have t1 := cell_keep hkk t1
          have t2 := cell_keep hkk t2
          obtain ⟨M, hM⟩ : ∃ M, M = m + 1 := ⟨_, rfl⟩
          rw [← hM] at t1
          have q4 : (j : Int) + 1 < (M : Int) := by omega
          have q5 : (0 : Int) ≤ (j : Int) + 1 := by omega
          have htb := (HTB.out x (j + 1)).1
          obtain ⟨tv, htv⟩ : ∃ t, t = tab x (j + 1) := ⟨_, rfl⟩
          rw [← htv] at t2 htb
          have HTV := hid htv
          have hw2 : wrap64 (1 + (tv : Int)) = 1 + (tv : Int) := by unfold wrap64; omega
          rw [show decide (j < m) = true from decide_eq_true hjm]
          clear hkk htv hM q3 htb q1 hjm
          go_upto_region 11 with (fail)
          go_wp2_with fail
          go_meet
          refine ⟨min bv (1 + tv), ?_, by omega, hid fun _ => by rw [← HTV.out]; omega, rfl⟩
          have e9 : ((min bv (1 + tv) : Nat) : Int) = min (bv : Int) (1 + (tv : Int)) := by omega
          rw [e9]
        · have q1 : decide ((j : Int) < (m : Int)) = false := decide_eq_false (by omega)
          rw [show decide (j < m) = false from decide_eq_false hjm]
          have HJM := hid hjm
          clear hjm
          go_wp2_with fail
          go_meet
          exact ⟨bv, rfl, by omega, hid fun h => by have := HJM.out; omega, rfl⟩
      case rest =>
        obtain ⟨b2, rfl, hb2, HIN, rfl⟩ := hcut
        have hkx2 : (k : Int) < mX → x + 1 < np := fun h => by
          have h2 : PosOk cs i (k + 1) := .inl ⟨hic, by have := HMX.out; omega⟩
          have h3 := num_lt h2
          rw [num_next, HNX.out, ← HNP.out] at h3
          exact h3
        have HKX2 := hid hkx2
        clear hkx2
        have hbig : b2 ≤ 1048576 := by omega
        by_cases hkm : (k : Int) < mX
        · have q1 : decide ((k : Int) < mX) = true := decide_eq_true hkm
          by_cases hr0 : 0 < r
          · have q2 : decide ((0 : Int) < (r : Int)) = true := decide_eq_true (by omega)
            obtain ⟨gr, cr, g', c', rfl, t1, t2⟩ := H3.out hr0
            have hx1 := HKX2.out hkm
            obtain ⟨gx, cx, t3, t4⟩ := t2 hx1 j hj
            have T5 := hid fun (h : j < m) => t2 hx1 (j + 1) h
            have T3O := hid t3
            have hkk := HBW3.out.trans (hW4.out.mono HBW3.out.size)
            have HKK := hid hkk
            have t1 := cell_keep hkk t1
            have t3 := cell_keep hkk t3
            have t4 := cell_keep hkk t4
            have p5 := (HF.out wc hW4.out).1.2.2.1.s.cells.c5
            have HS6 := hid (HF.out wc hW4.out).1.2.2.1
            obtain ⟨r1, hr1⟩ : ∃ r1, r = r1 + 1 := ⟨r - 1, by omega⟩
            have HR1 := hid hr1
            rw [show r - 1 = r1 by omega] at t1
            have q6 : wrap64 ((r : Int) - 1) = (r1 : Int) := by unfold wrap64; omega
            have q6b : (r : Int) - 1 = (r1 : Int) := by omega
            have q6c : (r1 : Int) < (r : Int) := by omega
            have q7 : (x : Int) + 1 < (np : Int) := by omega
            have q8 : (0 : Int) ≤ (x : Int) + 1 := by omega
            obtain ⟨M, hM⟩ : ∃ M, M = m + 1 := ⟨_, rfl⟩
            rw [← hM] at t3
            have HMM := hid hM
            have q9 : (j : Int) < (M : Int) := by omega
            have htb := (HTB.out (x + 1) j).2
            obtain ⟨dv, hdv⟩ : ∃ t, t = prev (x + 1) j := ⟨_, rfl⟩
            rw [← hdv] at t4 htb
            have HDV := hid hdv
            have HDB := hid htb
            have hw2 : wrap64 (1 + (dv : Int)) = 1 + (dv : Int) := by unfold wrap64; omega
            have HKM := hid hkm; have HR0 := hid hr0
            clear hkk hM hdv htb q3 hkm hr0 hr1 t2 hx1
            go_upto_if 120 with (fail)
            have MK := hid (show ∀ v, v ≤ b2 → v ≤ 1 + dv → (j < m → v ≤ alC0 (cl cs i) (par.getD j 0) + prev (x + 1) (j + 1)) → LstOk cs par tab prev r x j v from by
              intro v v1 v2 v3
              refine ⟨by omega, fun h => ?_, fun h h4 => ?_, fun h h4 => ?_, fun _ _ _ => by rw [← HDV.out]; exact v2, fun _ _ _ h4 => ?_⟩
              · rw [← HI.out] at h; omega
              · rw [← HI.out] at h4 ⊢
                exact Nat.le_trans v1 (Nat.le_trans hb2 (HEP.out (by rw [HMN.out, HK.out]; exact h4)))
              · exact Nat.le_trans v1 (HIN.out (by rw [HM.out]; exact h4))
              · rw [← HI.out]
                exact v3 (by rw [HM.out]; exact h4))
            have HW9 := hid (HBW3.out.trans (hW4.out.mono HBW3.out.size))
            by_cases hjm : j < m
            · rw [show decide (j < m) = true from decide_eq_true hjm]
              have HJM := hid hjm
              obtain ⟨gp, op, rfl, _, hpc⟩ := HS6.out.pa.at (by rw [← HM.out]; omega)
              have p6 := hpc j (by rw [← HM.out]; exact hjm)
              obtain ⟨av, hav⟩ : ∃ a, a = nth par j := ⟨_, rfl⟩
              rw [← hav] at p6
              have HAV := hid hav
              obtain ⟨al, hae⟩ : ∃ b, b = alw (cl cs i) av := ⟨_, rfl⟩
              have HAL := hid fun (W : World) (hW : Below w3.heap.size w3 W) => (show Calls Try.prog 67 #[.agg #[.int .i64 mN, .int .i64 mX, .slice sa sl sc], .int .i64 av] W fun e w' => e = .returned (.bool al) ∧ Below W.heap.size W w' from by
                have h4 := allows_any (cl cs i) av HS20.out W B (by have := hW.size; have := HB3Z.out; omega) ((HRS.out.below (HB3.out.mono (by have := X1.out.kb; have := X1.out.kw; omega))).below (hW.mono (by have := HB3Z.out; omega)))
                rw [← HMN.out, ← HMX.out, ← HSA.out, ← HSC.out, ← HSL.out, ← hae] at h4
                exact h4)
              have HAE := hid hae
              obtain ⟨gx5, cx5, t5, t6⟩ := T5.out hjm
              have q10 : (j : Int) < (m : Int) := by omega
              have q11 : (j : Int) + 1 < (M : Int) := by have := HMM.out; omega
              have q12 : (0 : Int) ≤ (j : Int) + 1 := by omega
              have h5 := T3O.out
              rw [h5] at t5
              injection t5 with t5
              injection t5 with t5 _ _
              injection t5 with t5
              injection t5 with t5 _ _
              subst t5
              obtain ⟨sv, hsv⟩ : ∃ t, t = prev (x + 1) (j + 1) := ⟨_, rfl⟩
              have hsb := (HTB.out (x + 1) (j + 1)).2
              rw [← hsv] at t6 hsb
              have HSV := hid hsv
              have T6 := hid (cell_keep HBW3.out t6)
              have HFF := hid fun (W : World) (hW : Below w3.heap.size w3 W) => (show W.cell? ⟨gx, j + 1, none⟩ = some (.int .i64 (sv : Int)) ∧ W.cell? ⟨gp, op + j, none⟩ = some (.int .i64 av) from ⟨cell_keep hW T6.out, by
                have h6 := (HF.out W hW).1.2.2.1.pa.at (by rw [← HM.out]; omega)
                obtain ⟨gp2, op2, h7, _, h8⟩ := h6
                injection h7 with h7
                injection h7 with h7 h9 _
                subst h7; subst h9
                rw [hav]
                exact h8 j (by rw [← HM.out]; exact hjm)⟩)
              have HJ := hid hjm
              have HE1 := hid (show ((min (min b2 (1 + dv)) sv : Nat) : Int) = min (b2 : Int) (min (1 + (dv : Int)) (sv : Int)) by omega)
              have HE2 := hid (show ((min (min b2 (1 + dv)) (1 + sv) : Nat) : Int) = min (b2 : Int) (1 + min (dv : Int) (sv : Int)) by omega)
              have HM1 := hid (show al = true → LstOk cs par tab prev r x j (min (min b2 (1 + dv)) sv) from fun h9 => MK.out _ (by omega) (by omega) (fun h => by
                unfold alC0
                rw [show par.getD j 0 = av from hav.symm, if_pos (hae.symm.trans h9), ← hsv]
                omega))
              have HM2 := hid (show al = false → LstOk cs par tab prev r x j (min (min b2 (1 + dv)) (1 + sv)) from fun h9 => MK.out _ (by omega) (by omega) (fun h => by
                unfold alC0
                rw [show par.getD j 0 = av from hav.symm, if_neg (fun h => by rw [← hae, h9] at h; cases h), ← hsv]
                omega))
              clear q6 q6b q6c q7 q8 hw2 hjm hpc hav hae h5 hsv t6 p6 f1 f2 f3 f4 f5 f7 t1 t3 t4 p5
              go_upto_region 17 with (fail)
              refine region_call [0, 1, 2, 3, 4, 5, 6, 7] [] [8] (fun W => Below w3.heap.size w3 W) (by kernel_rfl) (by kernel_rfl) (fun d _ _ _ _ h => by cases d <;> exact h) hW4.out.drew ?_
              apply Exists.intro
              simp only [List.map_cons, List.map_nil, List.getD_cons_zero, List.getD_cons_succ]
              refine ⟨⟨.agg #[.int .i64 mN, .int .i64 mX, .slice sa sl sc], Or.inl ⟨by rfl, fun W hW => by have p := (HF.out W hW).1.2.1.1; have p2 := (HF.out W hW).1.2.1.2.1; have p3 := (HF.out W hW).1.2.1.2.2; go_simp⟩, _, Or.inl ⟨by rfl, fun W hW => by go_simp; rfl⟩, _, Or.inl ⟨by rfl, fun W hW => by go_simp; rfl⟩, _, Or.inl ⟨by rfl, fun W hW => by go_simp; rfl⟩, .slice (some ⟨gp, op, none⟩) m c3, Or.inl ⟨by rfl, fun W hW => by have p := (HF.out W hW).1.2.2.2; go_simp⟩, _, Or.inl ⟨by rfl, fun W hW => by go_simp; rfl⟩, .pointer (some ⟨gp, op + j, none⟩), Or.inl ⟨by rfl, fun W hW => by go_simp⟩, .int .i64 av, Or.inl ⟨by rfl, fun W hW => by have p := (HFF.out W hW).2; go_simp⟩, rfl⟩, ?_⟩
              simp only [Act.put, List.setIfInBounds_toArray, List.set_cons_zero, List.set_cons_succ]
              simp only [wpMid]
              have q2 : decide ((0 : Int) < (r : Int)) = true := decide_eq_true (by omega)
              cases al with
              | true =>
                go_wp2_with (first | (go_at_call 67; refine (HAL.out _ hW4.out.drew).mono ?_; rintro e w7 ⟨rfl, h7⟩; have H7 := hid (hW4.out.drew.trans (h7.mono hW4.out.drew.size)); have HW7 := hid (HBW3.out.trans (H7.out.mono HBW3.out.size)); have t6 := (HFF.out w7 H7.out).1; clear h7))
                go_ret
                exact ⟨⟨min (min b2 (1 + dv)) sv, by rw [HE1.out]; rfl, HM1.out trivial⟩, HW7.out⟩
              | false =>
                go_wp2_with (first | (go_at_call 67; refine (HAL.out _ hW4.out.drew).mono ?_; rintro e w7 ⟨rfl, h7⟩; have H7 := hid (hW4.out.drew.trans (h7.mono hW4.out.drew.size)); have HW7 := hid (HBW3.out.trans (H7.out.mono HBW3.out.size)); have t6 := (HFF.out w7 H7.out).1; clear h7))
                go_ret
                exact ⟨⟨min (min b2 (1 + dv)) (1 + sv), by rw [HE2.out]; rfl, HM2.out trivial⟩, HW7.out⟩
            · rw [show decide (j < m) = false from decide_eq_false hjm]
              have HJM := hid hjm
              clear hjm
              go_wp2_with fail
              go_ret
              have e9 : ((min b2 (1 + dv) : Nat) : Int) = min (b2 : Int) (1 + (dv : Int)) := by omega
              exact ⟨⟨min b2 (1 + dv), by rw [e9]; rfl, MK.out _ (by omega) (by omega) (fun h => absurd h HJM.out)⟩, HW9.out⟩
          · have q2 : decide ((0 : Int) < (r : Int)) = false := decide_eq_false (by omega)
            have HR0 := hid hr0
            clear hr0 hkm q3
            go_wp2_with fail
            go_ret
            refine ⟨⟨b2, rfl, hbig, fun h => ?_, fun h h4 => ?_, fun h h4 => ?_, fun _ _ h => absurd h HR0.out, fun _ _ h => absurd h HR0.out⟩, HBW3.out.trans (hW4.out.mono HBW3.out.size)⟩
            · rw [← HI.out] at h; omega
            · rw [← HI.out] at h4 ⊢
              exact Nat.le_trans hb2 (HEP.out (by rw [HMN.out, HK.out]; exact h4))
            · exact HIN.out (by rw [HM.out]; exact h4)
        · have q1 : decide ((k : Int) < mX) = false := decide_eq_false hkm
          have HKM := hid (Int.not_lt.1 hkm)
          clear hkm q3
          go_wp2_with fail
          go_ret
          refine ⟨⟨b2, rfl, hbig, fun h => ?_, fun h h4 => ?_, fun h h4 => ?_, fun _ h4 => ?_, fun _ h4 => ?_⟩, HBW3.out.trans (hW4.out.mono HBW3.out.size)⟩
          · rw [← HI.out] at h; omega
          · rw [← HI.out] at h4 ⊢
            exact Nat.le_trans hb2 (HEP.out (by rw [HMN.out, HK.out]; exact h4))
          · exact HIN.out (by rw [HM.out]; exact h4)
          · rw [← HI.out, ← HK.out, ← HMX.out] at h4; have := HKM.out; omega
          · rw [← HI.out, ← HK.out, ← HMX.out] at h4; have := HKM.out; omega
end Go.Proofs.Ytaoddenadfmdbaa
