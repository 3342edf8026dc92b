/- WALK: wall.right. -/
import Derived.Test.YtaoddenadfmdbaaClW
import Derived.Test.YtaoddenadfmdbaaCheck
import Derived.Test.YtaoddenadfmdbaaSgn7
namespace Go.Proofs.Ytaoddenadfmdbaa
open Go.RowKit
def cOkB (n : Int) (c : Cl) : Bool := decide (0 ≤ c.mn) && decide (c.mn ≤ c.mx) && risB n c.signs && !(decide (n = 0) && decide (0 < c.mx))
def rightB (n : Int) (cs : List Cl) : Bool := (List.range cs.length).all fun i => cOkB n (cl cs i)
theorem rightB_ok {n : Nat} {cs : List Cl} (h : rightB n cs = true) (hm : ∀ c ∈ cs, 0 ≤ c.mx ∧ c.mx ≤ 9) : ∀ c ∈ cs, ClOk n c := by
  intro c hc
  have h9 := hm c hc
  obtain ⟨i, hi, rfl⟩ := List.getElem_of_mem hc
  have h1 := List.all_eq_true.1 h i (List.mem_range.2 hi)
  rw [cl_at hi] at h1
  unfold cOkB at h1
  simp only [Bool.and_eq_true, decide_eq_true_eq, Bool.not_eq_true', Bool.and_eq_false_iff, decide_eq_false_iff_not] at h1
  obtain ⟨⟨⟨a, b⟩, c1⟩, d⟩ := h1
  exact ⟨a, b, h9.2, risB_mem c1, fun e => by rcases d with d | d <;> omega⟩
theorem rightB_no {n : Int} {cs : List Cl} {i : Nat} (hi : i < cs.length) (h : cOkB n (cl cs i) = false) : rightB n cs = false := by
  rw [Bool.eq_false_iff]
  intro h2
  have := List.all_eq_true.1 h2 i (List.mem_range.2 hi)
  rw [h] at this
  cases this
theorem rightB_yes {n : Int} {cs : List Cl} (h : ∀ i, i < cs.length → cOkB n (cl cs i) = true) : rightB n cs = true := List.all_eq_true.2 fun i hi => h i (List.mem_range.1 hi)
theorem sumM_take_s {cs : List Cl} {k : Nat} (h : k < cs.length) : sumM (cs.take (k + 1)) = sumM (cs.take k) + (cl cs k).mx.toNat := by
  have e : cs.take (k + 1) = cs.take k ++ [cs[k]] := by rw [List.take_add_one, List.getElem?_eq_getElem h]; rfl
  rw [e, cl_at h]
  unfold sumM
  rw [List.map_append, List.sum_append]
  rfl
theorem sumM_take_le (cs : List Cl) (k : Nat) : sumM (cs.take k) ≤ sumM cs := by
  have h : sumM (cs.take k ++ cs.drop k) = sumM (cs.take k) + sumM (cs.drop k) := by unfold sumM; rw [List.map_append, List.sum_append]
  rw [List.take_append_drop] at h
  omega
set_option maxRecDepth 100000 in
set_option maxHeartbeats 4000000 in
theorem wright_any (n : Nat) (hn : n ≤ 1000000) (cs : List Cl) (hlen : cs.length ≤ 8) (hm : ∀ c ∈ cs, 0 ≤ c.mx ∧ c.mx ≤ 9) (hsum : sumM cs ≤ 12) (hs : ∀ c ∈ cs, c.signs.length ≤ 20) (A : Option Addr) (c : Nat) (w : World) (r : Cls w w.heap.size A cs) :
    Calls Try.prog 50 #[.int .i64 (n : Int), .slice A cs.length c] w fun e w' => e = .returned (.bool (rightB n cs)) ∧ Below w.heap.size w w' := by
  obtain ⟨m, hmm⟩ : ∃ m, m = cs.length := ⟨_, rfl⟩
  have HM := hid hmm; have HR := hid r; have HMX := hid hm; have HSU := hid hsum; have HS := hid hs
  rw [← hmm] at hlen ⊢
  clear hmm r hm hsum hs
  go_enter Try.func50, Try.ntmps50
  go_wp2_with fail
  go_loopw [5, 10] (fun sv iv wr => ∃ i : Nat, i ≤ m ∧ iv = .int .i64 i ∧ sv = .int .i64 (sumM (cs.take i) : Nat) ∧ Hid (∀ j, j < i → cOkB n (cl cs j) = true) ∧ Hid (Below w.heap.size w wr)) (fun _ iv _ => m - (intOf iv).toNat)
  case atStart => exact ⟨0, by omega, rfl, rfl, hid fun j hj => by omega, hid (Below.refl _ _)⟩
  case round =>
    obtain ⟨i, hi, rfl, rfl, hE, hB⟩ := hrel
    by_cases him : i < m
    · have hil : i < cs.length := by rw [← HM.out]; exact him
      obtain ⟨b, o, rfl, hb, hc⟩ := HR.out.at (by omega)
      have hx := (hc i hil).below hB.out hb
      have p1 := hx.mn; have p2 := hx.mx; have p3 := hx.sg
      have hmem : cs[i]'hil ∈ cs := List.getElem_mem hil
      have h9 := HMX.out _ hmem
      have hs20 := HS.out _ hmem
      have hrd := HR.out.sgs _ hmem
      have HNO := hid fun (h : cOkB n (cl cs i) = false) => rightB_no hil h
      have hst := sumM_take_s hil
      have hle := sumM_take_le cs (i + 1)
      have hsu := HSU.out
      rw [cl_at hil] at hst
      have hcl := cl_at hil
      rw [hcl] at HNO
      have HCL := hid hcl
      generalize cs[i]'hil = x at *
      obtain ⟨mn, mx, sg, sa, sc⟩ := x
      simp only [] at p1 p2 p3 h9 hs20 hrd hst
      have q1 : (i : Int) < (m : Int) := by omega
      have HRI := hid fun (W : World) (h : Below w.heap.size w W) => rising_any n (by omega) sg sa sc (by omega) W ((hrd.below h).more h.size)
      obtain ⟨su, hsu2⟩ : ∃ su, su = sumM (cs.take i) := ⟨_, rfl⟩
      rw [← hsu2] at hst ⊢
      obtain ⟨s2, hs2⟩ : ∃ s2, s2 = sumM (cs.take (i + 1)) := ⟨_, rfl⟩
      rw [← hs2] at hst hle
      have HS2 := hid hs2
      have hadd : (su : Int) + mx = (s2 : Int) := by omega
      have hwr : IntKind.i64.wrap ((su : Int) + mx) = (s2 : Int) := by rw [hadd]; exact IntWalk.i64_in _ (by omega)
      have HBA := hid fun (o : Obj) => hB.out.alloc hB.out.size o
      have e9 : decide (9 < mx) = false := decide_eq_false (by omega)
      clear hc hmem hrd hs20 hx hcl hsu2 hs2
      by_cases h1 : mn < 0
      · have e1 : decide (mn < 0) = true := decide_eq_true h1
        have HX := hid (HNO.out (by unfold cOkB; simp only []; rw [decide_eq_false (show ¬ 0 ≤ mn by omega)]; rfl))
        clear h1 hst hadd hwr
        go_wp2_with fail
        go_ret
        exact ⟨by rw [HX.out]; rfl, HBA.out _⟩
      have e1 : decide (mn < 0) = false := decide_eq_false h1
      by_cases h2 : mx < mn
      · have e2 : decide (mx < mn) = true := decide_eq_true h2
        have HX := hid (HNO.out (by unfold cOkB; simp only []; rw [decide_eq_false (show ¬ mn ≤ mx by omega)]; simp))
        clear h1 h2 hst hadd hwr
        go_wp2_with fail
        go_ret
        exact ⟨by rw [HX.out]; rfl, HBA.out _⟩
      have e2 : decide (mx < mn) = false := decide_eq_false h2
      cases hri : risB n sg with
      | false =>
        have HX := hid (HNO.out (by unfold cOkB; simp only []; rw [hri]; simp))
        rw [hri] at HRI
        clear h1 h2 hst hadd hwr hri
        go_wp2_with (first | (go_at_call 66; refine (HRI.out _ (HBA.out _)).mono ?_; rintro e w3 ⟨rfl, hb3⟩; have HB3 := hid ((HBA.out _).trans (hb3.mono (HBA.out _).size)); clear hb3))
        go_ret
        exact ⟨by rw [HX.out]; rfl, HB3.out⟩
      | true =>
        rw [hri] at HRI
        by_cases h0 : n = 0
        · by_cases hx0 : 0 < mx
          · have HX := hid (HNO.out (by unfold cOkB; simp only []; rw [decide_eq_true hx0, decide_eq_true (show (n : Int) = 0 by omega)]; simp))
            have e3 : ((n : Int) == 0) = true := by simp [h0]
            have e4 : decide (0 < mx) = true := decide_eq_true hx0
            clear h1 h2 hst hadd hwr hri h0 hx0
            go_wp2_with (first | (go_at_call 66; refine (HRI.out _ (HBA.out _)).mono ?_; rintro e w3 ⟨rfl, hb3⟩; have p5 := (hb3.cell (p := ⟨wr.heap.size, 1, none⟩) (by simp)).trans (cell_here (cs := #[.int .i64 mn, .int .i64 mx, .slice sa sg.length sc]) (T := 30) rfl rfl); have HB3 := hid ((HBA.out _).trans (hb3.mono (HBA.out _).size)); clear hb3))
            go_ret
            exact ⟨by rw [HX.out]; rfl, HB3.out⟩
          · have HX := hid (show cOkB n (cl cs i) = true by rw [HCL.out]; unfold cOkB; simp only []; rw [hri, decide_eq_true (show 0 ≤ mn by omega), decide_eq_true (show mn ≤ mx by omega), decide_eq_false hx0]; simp)
            have e3 : ((n : Int) == 0) = true := by simp [h0]
            have e4 : decide (0 < mx) = false := decide_eq_false hx0
            clear h1 h2 hst hadd hri h0 hx0
            go_wp2_with (first | (go_at_call 66; refine (HRI.out _ (HBA.out _)).mono ?_; rintro e w3 ⟨rfl, hb3⟩; have p5 := (hb3.cell (p := ⟨wr.heap.size, 1, none⟩) (by simp)).trans (cell_here (cs := #[.int .i64 mn, .int .i64 mx, .slice sa sg.length sc]) (T := 30) rfl rfl); have HB3 := hid ((HBA.out _).trans (hb3.mono (HBA.out _).size)); clear hb3))
            go_roundw
            case rel => exact ⟨i + 1, by omega, by go_num, by rw [HS2.out], hid fun j hj => by
              rcases Nat.eq_or_lt_of_le (Nat.le_of_lt_succ hj) with e | h
              · rw [e]; exact HX.out
              · exact hE.out j h, HB3⟩
            case measure => simp [intOf]; omega
        · have HX := hid (show cOkB n (cl cs i) = true by rw [HCL.out]; unfold cOkB; simp only []; rw [hri, decide_eq_true (show 0 ≤ mn by omega), decide_eq_true (show mn ≤ mx by omega), decide_eq_false (show ¬ (n : Int) = 0 by omega)]; simp)
          have e3 : ((n : Int) == 0) = false := by simp [h0]
          clear h1 h2 hst hadd hri h0
          go_wp2_with (first | (go_at_call 66; refine (HRI.out _ (HBA.out _)).mono ?_; rintro e w3 ⟨rfl, hb3⟩; have p5 := (hb3.cell (p := ⟨wr.heap.size, 1, none⟩) (by simp)).trans (cell_here (cs := #[.int .i64 mn, .int .i64 mx, .slice sa sg.length sc]) (T := 30) rfl rfl); have HB3 := hid ((HBA.out _).trans (hb3.mono (HBA.out _).size)); clear hb3))
          go_roundw
          case rel => exact ⟨i + 1, by omega, by go_num, by rw [HS2.out], hid fun j hj => by
            rcases Nat.eq_or_lt_of_le (Nat.le_of_lt_succ hj) with e | h
            · rw [e]; exact HX.out
            · exact hE.out j h, HB3⟩
          case measure => simp [intOf]; omega
    · obtain rfl : i = m := by omega
      have q1 : decide ((i : Int) < (i : Int)) = false := by simp
      have HX := hid (rightB_yes (n := n) (cs := cs) fun j hj => hE.out j (by rw [HM.out]; exact hj))
      have hle := sumM_take_le cs i
      have hsu := HSU.out
      have e1 : decide ((i : Int) ≤ 40) = true := decide_eq_true (by omega)
      have e2 : decide (((sumM (cs.take i) : Nat) : Int) ≤ 60) = true := decide_eq_true (by omega)
      generalize sumM (cs.take i) = su at *
      go_wp2_with fail
      go_ret
      exact ⟨by rw [HX.out]; rfl, hB.out⟩
end Go.Proofs.Ytaoddenadfmdbaa

/- WALK: wall.Check, checkLines, check. -/
namespace Go.Proofs.Ytaoddenadfmdbaa
open Go.RowKit Go.Shelf Go.Lib
/-- The error of cells that are small. -/
def wcellsE (P : Int) (ss : List Sg) (cs : List Cl) : Int := if listE P ss ≠ 0 then listE P ss else if rightB ss.length cs = true then 0 else 70
set_option maxRecDepth 100000 in
set_option maxHeartbeats 2000000 in
theorem wCheck_any (P : Int) (ss : List Sg) (cs : List Cl) (hl : ss.length ≤ 1000000) (hv : ∀ s ∈ ss, s.vals.length ≤ 1000000 ∧ s.vals.length ≤ s.vc) (hlen : cs.length ≤ 8) (hm : ∀ c ∈ cs, 0 ≤ c.mx ∧ c.mx ≤ 9) (hsum : sumM cs ≤ 12) (hs : ∀ c ∈ cs, c.signs.length ≤ 20) (A A2 : Option Addr) (c c2 : Nat) (w : World) (rs : Sgs w w.heap.size A ss) (rc : Cls w w.heap.size A2 cs) :
    Calls Try.prog 34 #[.agg #[.int .i64 P, .slice A ss.length c], .slice A2 cs.length c2] w fun e w' => e = .returned (.int .i64 (wcellsE P ss cs)) ∧ Below w.heap.size w w' := by
  obtain ⟨w1, hw1⟩ : ∃ W, W = w.alloc (.cells #[.int .i64 P, .slice A ss.length c] 24) := ⟨_, rfl⟩
  have hb1 : Below w.heap.size w w1 := by rw [hw1]; exact (Below.refl _ _).alloc (Nat.le_refl _) _
  have c0 : w1.cell? ⟨w.heap.size, 0, none⟩ = some (.int .i64 P) := by rw [hw1]; exact cell_here rfl rfl
  have c1 : w1.cell? ⟨w.heap.size, 1, none⟩ = some (.slice A ss.length c) := by rw [hw1]; exact cell_here rfl rfl
  have hz : w.heap.size < w1.heap.size := by rw [hw1]; simp
  have HLC := hid (listCheck_any P ss hl hv A c w1 ((rs.below hb1).more (by omega)))
  have HRI := hid fun (W : World) (h : Below w.heap.size w W) => wright_any ss.length hl cs hlen hm hsum hs A2 c2 W ((rc.below h).more h.size)
  have HW1 := hid hw1; have HB1 := hid hb1
  have HC := hid fun (W : World) (h : Below w1.heap.size w1 W) => (h.cell (p := ⟨w.heap.size, 1, none⟩) hz).trans c1
  obtain ⟨E, hE⟩ : ∃ E, E = listE P ss := ⟨_, rfl⟩
  have hCE : wcellsE P ss cs = if E ≠ 0 then E else if rightB ss.length cs = true then 0 else 70 := by rw [hE]; rfl
  rw [← hE] at HLC
  rw [hCE]
  obtain ⟨n, hn⟩ : ∃ n, n = ss.length := ⟨_, rfl⟩
  obtain ⟨R, hR⟩ : ∃ R, R = rightB ss.length cs := ⟨_, rfl⟩
  rw [← hR] at HRI ⊢
  rw [← hn] at HRI HLC HC c1 HW1 hl ⊢
  have HEE := hid hE
  clear hE hCE hn hR hw1 hb1 rs rc hv hm hs hsum hlen
  go_enter Try.func34, Try.ntmps34
  go_upto_region 1 with (fail)
  rw [← HW1.out]
  clear HW1
  by_cases h0 : E = 0
  · have e1 : (E != 0) = false := by simp [h0]
    have HX := hid h0
    clear h0
    cases R with
    | true =>
      go_wp2_with (first | (go_at_call 49; refine HLC.out.mono ?_; rintro e w2 ⟨rfl, hb2⟩; have p1 := HC.out _ hb2; have HB2 := hid (HB1.out.trans (hb2.mono HB1.out.size)); clear hb2) | (go_at_call 50; refine (HRI.out _ HB2.out).mono ?_; rintro e w3 ⟨rfl, hb3⟩; have HB3 := hid (HB2.out.trans (hb3.mono HB2.out.size)); clear hb3))
      go_ret
      exact ⟨by first | rfl | (rw [HX.out]; rfl), HB3.out⟩
    | false =>
      go_wp2_with (first | (go_at_call 49; refine HLC.out.mono ?_; rintro e w2 ⟨rfl, hb2⟩; have p1 := HC.out _ hb2; have HB2 := hid (HB1.out.trans (hb2.mono HB1.out.size)); clear hb2) | (go_at_call 50; refine (HRI.out _ HB2.out).mono ?_; rintro e w3 ⟨rfl, hb3⟩; have HB3 := hid (HB2.out.trans (hb3.mono HB2.out.size)); clear hb3))
      go_ret
      exact ⟨by first | rfl | (rw [HX.out]; rfl), HB3.out⟩
  · have e1 : (E != 0) = true := by simp [h0]
    have HX := hid h0
    clear h0
    go_wp2_with (first | (go_at_call 49; refine HLC.out.mono ?_; rintro e w2 ⟨rfl, hb2⟩; have HB2 := hid (HB1.out.trans (hb2.mono HB1.out.size)); clear hb2))
    go_ret
    exact ⟨by first | rfl | (rw [if_pos HX.out]; rfl), HB2.out⟩
theorem cl_closure (n : Int) (hn : 0 ≤ n ∧ n ≤ 1000000) (g : Nat) (x : Int) (W : World) (hg : W.heap[g]? = some (.cells #[.int .i64 n] 3 (0, 0))) : Calls Try.prog 51 #[.int .i64 x, .pointer (some ⟨g, 0, none⟩)] W fun e w' => e = .returned (.bool (!(inB x 0 (n - 1)))) ∧ ∃ q, w' = W.drewN q := by
  have p1 := cell_of_one hg
  have hw : IntKind.i64.wrap (n - 1) = n - 1 := IntWalk.i64_in _ (by omega)
  have HWI := hid fun W => within_any x 0 (n - 1) W
  clear hg
  cases hb : inB x 0 (n - 1) with
  | true =>
    rw [hb] at HWI
    clear hb
    go_enter Try.func51, Try.ntmps51
    go_wp2_with (first | (go_at_call 24; refine (HWI.out _).mono ?_; rintro e w2 ⟨rfl, hx⟩; subst w2))
    go_ret
    exact ⟨rfl, 0, rfl⟩
  | false =>
    rw [hb] at HWI
    clear hb
    go_enter Try.func51, Try.ntmps51
    go_wp2_with (first | (go_at_call 24; refine (HWI.out _).mono ?_; rintro e w2 ⟨rfl, hx⟩; subst w2))
    go_ret
    exact ⟨rfl, 0, rfl⟩
/-- A number of a line that is none of the list's. -/
def outB (n : Int) (l : List Int) : Bool := l.any fun x => !(inB x 0 (n - 1))
theorem outB_no {n : Int} {l : List Int} (h : outB n l = false) : ∀ x ∈ l, 0 ≤ x ∧ x < n := by
  intro x hx
  have h1 := List.any_eq_false.1 h x hx
  unfold inB at h1
  simp only [Bool.not_eq_true', Bool.and_eq_false_iff, decide_eq_false_iff_not] at h1
  omega
theorem contains_out (n : Int) (hn : 0 ≤ n ∧ n ≤ 1000000) (l : List Int) (A : Option Addr) (c g : Nat) (hl : l.length ≤ 60) (w : World) (B : Nat) (r : Rd w B A l) (hg : w.heap[g]? = some (.cells #[.int .i64 n] 3 (0, 0))) :
    Calls Try.prog 27 #[.slice A l.length c, .func (.func 51) #[] #[.pointer (some ⟨g, 0, none⟩)]] w fun e w' => e = .returned (.bool (outB n l)) ∧ ∃ q, w' = w.drewN q := by
  rcases Nat.eq_zero_or_pos l.length with h0 | h0
  · have hl0 : l = [] := List.eq_nil_of_length_eq_zero h0
    subst hl0
    have hcon := AnyE.slices_ContainsFunc_empty Try.lCF A c (.func (.func 51) #[] #[.pointer (some ⟨g, 0, none⟩)]) w
    change Calls Try.prog 27 _ _ _ at hcon
    exact hcon.mono fun e w' ⟨he, hw⟩ => ⟨he, 0, hw⟩
  · obtain ⟨b, o, rfl, _, hc⟩ := r.at h0
    have eg : ∀ args w, (callFunc 51 args).run Try.prog w = .ok (.enter 51 args) w := enters_of Try.func51 (by kernel_rfl) rfl
    have hcon := AnyE.slices_ContainsFunc Try.lCF (Value.int .i64) (fun x => !(inB x 0 (n - 1))) 51 #[.pointer (some ⟨g, 0, none⟩)] eg b o l.length c l w (fun W x hW => cl_closure n hn g x W ((hW.block g (lt_of_block hg)).trans hg)) (Nat.le_refl _) (by omega) (fun j hj => by rw [hc j hj]; simp [nth, hj])
    change Calls Try.prog 27 _ _ _ at hcon
    rw [List.take_length] at hcon
    exact hcon
set_option maxRecDepth 100000 in
set_option maxHeartbeats 2000000 in
theorem checkLine1_any (n : Nat) (hn : n ≤ 1000000) (l : List Int) (A : Option Addr) (c g : Nat) (hl : l.length ≤ 60) (w : World) (r : Rd w w.heap.size A l) (hg : w.cell? ⟨g, 0, none⟩ = some (.slice A l.length c)) :
    Calls Try.prog 35 #[.int .i64 (n : Int), .slice (some ⟨g, 0, none⟩) 1 1] w fun e w' => e = .returned (.int .i64 (if outB n l = true then 23 else 0)) ∧ Below w.heap.size w w' := by
  obtain ⟨w1, hw1⟩ : ∃ W, W = w.alloc (.cells #[.int .i64 (n : Int)] 3) := ⟨_, rfl⟩
  have hb1 : Below w.heap.size w w1 := by rw [hw1]; exact (Below.refl _ _).alloc (Nat.le_refl _) _
  have h1 : w1.heap[w.heap.size]? = some (.cells #[.int .i64 (n : Int)] 3 (0, 0)) := by rw [hw1]; exact heap_alloc_new w _
  have p0 : w1.cell? ⟨g, 0, none⟩ = some (.slice A l.length c) := by rw [hw1]; exact cell_old hg
  have HCO := hid (contains_out n (by omega) l A c w.heap.size hl w1 w.heap.size (r.below hb1) h1)
  have HW1 := hid hw1; have HB1 := hid hb1
  obtain ⟨m, hm⟩ : ∃ m, m = l.length := ⟨_, rfl⟩
  rw [← hm] at HCO p0 hl hg
  obtain ⟨R, hR⟩ : ∃ R, R = outB n l := ⟨_, rfl⟩
  rw [← hR] at HCO ⊢
  have e0 : decide ((60 : Int) < (m : Int)) = false := decide_eq_false (by omega)
  have hmf : ∀ (fn : Fn) (first cap : Array Value) (w : World), (Instr.makeFunc fn first cap).run Try.prog w = .ok (.func fn first cap) w := fun _ _ _ _ => rfl
  clear hm hR hw1 hb1 h1 r hg
  go_enter Try.func35, Try.ntmps35
  go_upto_region 1 with (fail)
  rw [← HW1.out]
  clear HW1
  go_wp2_with fail
  go_loopw [9] (fun iv wr => (iv = .int .i64 0 ∧ wr = w1) ∨ (iv = .int .i64 1 ∧ Hid (R = false) ∧ Hid (∃ q, wr = w1.drewN q))) (fun iv _ => 1 - (intOf iv).toNat)
  case atStart => exact .inl ⟨rfl, rfl⟩
  case round =>
    rcases hrel with ⟨rfl, rfl⟩ | ⟨rfl, hR, hq⟩
    · cases R with
      | true =>
        go_wp2_with (first | (go_at_call 27; refine HCO.out.mono ?_; rintro e w2 ⟨rfl, q, rfl⟩))
        go_ret
        exact ⟨rfl, HB1.out.trans ⟨rfl, rfl, rfl, Nat.le_refl _, fun _ _ => rfl⟩⟩
      | false =>
        go_wp2_with (first | (go_at_call 27; refine HCO.out.mono ?_; rintro e w2 ⟨rfl, q, rfl⟩))
        go_roundw
        case rel => exact .inr ⟨rfl, hid (by first | rfl | trivial), hid ⟨_, rfl⟩⟩
        case measure => simp [intOf]
    · obtain ⟨q, rfl⟩ := hq.out
      have hR2 : R = false := hR.out
      subst hR2
      go_wp2_with fail
      go_ret
      exact ⟨rfl, HB1.out.trans ⟨rfl, rfl, rfl, Nat.le_refl _, fun _ _ => rfl⟩⟩
/-- The error of a list, cells and a line. -/
def wallE (P : Int) (ss : List Sg) (cs : List Cl) (l : List Int) : Int := if wcellsE P ss cs ≠ 0 then wcellsE P ss cs else if outB ss.length l = true then 23 else 0
set_option maxRecDepth 100000 in
set_option maxHeartbeats 2000000 in
theorem wcheck_any (P : Int) (ss : List Sg) (cs : List Cl) (l : List Int) (hl : ss.length ≤ 1000000) (hv : ∀ s ∈ ss, s.vals.length ≤ 1000000 ∧ s.vals.length ≤ s.vc) (hlen : cs.length ≤ 8) (hm : ∀ c ∈ cs, 0 ≤ c.mx ∧ c.mx ≤ 9) (hsum : sumM cs ≤ 12) (hs : ∀ c ∈ cs, c.signs.length ≤ 20) (hll : l.length ≤ 60) (A A2 A3 : Option Addr) (c c2 c3 g : Nat) (w : World) (rs : Sgs w w.heap.size A ss) (rc : Cls w w.heap.size A2 cs) (rl : Rd w w.heap.size A3 l) (hg : w.cell? ⟨g, 0, none⟩ = some (.slice A3 l.length c3)) :
    Calls Try.prog 23 #[.agg #[.int .i64 P, .slice A ss.length c], .slice A2 cs.length c2, .slice (some ⟨g, 0, none⟩) 1 1] w fun e w' => e = .returned (.int .i64 (wallE P ss cs l)) ∧ Below w.heap.size w w' := by
  obtain ⟨w1, hw1⟩ : ∃ W, W = w.alloc (.cells #[.int .i64 P, .slice A ss.length c] 24) := ⟨_, rfl⟩
  have hb1 : Below w.heap.size w w1 := by rw [hw1]; exact (Below.refl _ _).alloc (Nat.le_refl _) _
  have c0 : w1.cell? ⟨w.heap.size, 0, none⟩ = some (.int .i64 P) := by rw [hw1]; exact cell_here rfl rfl
  have c1 : w1.cell? ⟨w.heap.size, 1, none⟩ = some (.slice A ss.length c) := by rw [hw1]; exact cell_here rfl rfl
  have hz : w.heap.size < w1.heap.size := by rw [hw1]; simp
  have HCK := hid (wCheck_any P ss cs hl hv hlen hm hsum hs A A2 c c2 w1 ((rs.below hb1).more (by omega)) ((rc.below hb1).more (by omega)))
  have hgl : g < w.heap.size := World.block_lt_of_cell? _ _ hg
  have HCL := hid fun (W : World) (h : Below w.heap.size w W) => checkLine1_any ss.length hl l A3 c3 g hll W ((rl.below h).more h.size) ((h.cell (p := ⟨g, 0, none⟩) hgl).trans hg)
  have HW1 := hid hw1; have HB1 := hid hb1
  have HC := hid fun (W : World) (h : Below w1.heap.size w1 W) => (h.cell (p := ⟨w.heap.size, 1, none⟩) hz).trans c1
  obtain ⟨E, hE⟩ : ∃ E, E = wcellsE P ss cs := ⟨_, rfl⟩
  have hCE : wallE P ss cs l = if E ≠ 0 then E else if outB ss.length l = true then 23 else 0 := by rw [hE]; rfl
  rw [← hE] at HCK
  rw [hCE]
  obtain ⟨n, hn⟩ : ∃ n, n = ss.length := ⟨_, rfl⟩
  obtain ⟨R, hR⟩ : ∃ R, R = (if outB ss.length l = true then (23 : Int) else 0) := ⟨_, rfl⟩
  rw [← hR] at HCL ⊢
  rw [← hn] at HCL HCK HC c1 HW1 hl ⊢
  clear hE hCE hn hR hw1 hb1 rs rc rl hv hm hs hsum hlen hg hgl
  go_enter Try.func23, Try.ntmps23
  go_upto_region 1 with (fail)
  rw [← HW1.out]
  clear HW1
  by_cases h0 : E = 0
  · have e1 : (E != 0) = false := by simp [h0]
    have HX := hid h0
    clear h0
    go_wp2_with (first | (go_at_call 34; refine HCK.out.mono ?_; rintro e w2 ⟨rfl, hb2⟩; have p1 := HC.out _ hb2; have HB2 := hid (HB1.out.trans (hb2.mono HB1.out.size)); clear hb2) | (go_at_call 35; refine (HCL.out _ HB2.out).mono ?_; rintro e w3 ⟨rfl, hb3⟩; have HB3 := hid (HB2.out.trans (hb3.mono HB2.out.size)); clear hb3))
    go_ret
    exact ⟨by first | rfl | (rw [HX.out]; rfl), HB3.out⟩
  · have e1 : (E != 0) = true := by simp [h0]
    have HX := hid h0
    clear h0
    go_wp2_with (first | (go_at_call 34; refine HCK.out.mono ?_; rintro e w2 ⟨rfl, hb2⟩; have HB2 := hid (HB1.out.trans (hb2.mono HB1.out.size)); clear hb2))
    go_ret
    exact ⟨by first | rfl | (rw [if_pos HX.out]; rfl), HB2.out⟩
end Go.Proofs.Ytaoddenadfmdbaa
