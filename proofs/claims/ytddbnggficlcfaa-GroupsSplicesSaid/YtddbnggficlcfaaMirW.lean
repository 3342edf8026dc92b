/- groups.Mirror. -/
import Derived.Test.YtddbnggficlcfaaClone
namespace Go.Proofs.Ytddbnggficlcfaa
open Go.RowKit Go.Shelf
theorem own_some {w : World} {base n size : Nat} {e : TypeId} {v : Value} {xs : List Value} (h : w.ownsRow base e size v n xs) (hn : 0 < n) : ∃ g c, v = .slice (some ⟨g, 0, none⟩) n c ∧ base ≤ g ∧ g < w.heap.size := by
  rcases h.2 with ⟨_, h2⟩ | ⟨g, cap, cur, hv, hg, hh, _⟩
  · omega
  · exact ⟨g, cap, hv, hg, lt_of_block hh⟩
/-- A node of a row of the call's own. -/
theorem own_nd {w : World} {base g n c : Nat} {l : List Nd} (h : w.ownsRow base 78 8 (.slice (some ⟨g, 0, none⟩) n c) n (flatN l)) (hl : l.length = n) {k : Nat} (hk : k < l.length) : NdAt w g (k * 8) l[k] := by
  have hx : ∀ j u, j < 8 → (l[k].cells)[j]? = some u → w.cell? ⟨g, k * 8 + j, none⟩ = some u := fun j u hj hu => by
    rw [h.cellAt _ (by omega), flatN_get l k j hk hj]
    exact hu
  exact ⟨hx 0 _ (by omega) rfl, hx 1 _ (by omega) rfl, hx 2 _ (by omega) rfl, hx 3 _ (by omega) rfl, hx 4 _ (by omega) rfl, hx 5 _ (by omega) rfl, hx 6 _ (by omega) rfl, hx 7 _ (by omega) rfl⟩
/-- A cell of a node of such a row is stored, behind some boxes that were made. -/
theorem own_set {w w3 : World} {base g n c : Nat} {f : Nd → Nd} {l : List Nd} {k j : Nat} {u : Value} (h : w.ownsRow base 78 8 (.slice (some ⟨g, 0, none⟩) n c) n (flatN (mixN f l k))) (hb : Below w.heap.size w w3) (hk : k < l.length) (hj : j < 8) (hu : (f l[k]).cells = (l[k].cells).set j u) :
    (w3.setCell ⟨g, k * 8 + j, none⟩ u).ownsRow base 78 8 (.slice (some ⟨g, 0, none⟩) n c) n (flatN (mixN f l (k + 1))) := by
  have h1 := ((own_keep h hb).stored (k * 8 + j) u).1
  rw [flatN_set (mixN f l k) k j u (f l[k]) (by rw [mixN_len]; exact hk) hj (by rw [mixN_get hk]; exact hu), mixN_set hk] at h1
  exact h1
set_option maxRecDepth 100000 in
set_option maxHeartbeats 8000000 in
theorem mirrorE_any (P : Int) (ss : List Sg) (l : List Nd) (hN : ss.length ≤ 1000000) (hv : ∀ s ∈ ss, s.vals.length ≤ 1000000 ∧ s.vals.length ≤ s.vc) (hn : l.length ≤ 1000000) (A A2 : Option Addr) (c c2 : Nat) (w : World) (rs : Sgs w w.heap.size A ss) (rn : Nds w w.heap.size A2 l) :
    Calls Try.prog 47 #[.agg #[.int .i64 P, .slice A ss.length c], .agg #[.slice A2 l.length c2]] w (TxtPost (chkE P ss l) (mrrL P ss l) w) := by
  obtain ⟨w1, hw1⟩ : ∃ w1, w1 = ((w.alloc (.cells #[.int .i64 P, .slice A ss.length c] 24)).alloc (.cells #[.slice A2 l.length c2] 27)).alloc (.cells #[.slice none 0 0] 27) := ⟨_, rfl⟩
  have hb1 : Below w.heap.size w w1 := by rw [hw1]; exact (((Below.refl _ _).alloc (Nat.le_refl _) _).alloc (by simp) _).alloc (by simp; omega) _
  have hz1 : w1.heap.size = w.heap.size + 3 := by rw [hw1]; simp
  have c0 : w1.cell? ⟨w.heap.size, 0, none⟩ = some (.int .i64 P) := by rw [hw1]; exact cell_old (cell_old (cell_here rfl rfl))
  have c1 : w1.cell? ⟨w.heap.size, 1, none⟩ = some (.slice A ss.length c) := by rw [hw1]; exact cell_old (cell_old (cell_here rfl rfl))
  have c3 : w1.cell? ⟨w.heap.size + 1, 0, none⟩ = some (.slice A2 l.length c2) := by rw [hw1]; exact cell_old (cell_here (by simp) rfl)
  have c4 : w1.cell? ⟨w.heap.size + 2, 0, none⟩ = some (.slice none 0 0) := by rw [hw1]; exact cell_here (by simp) rfl
  have z4 : w1.frozen? ⟨w.heap.size + 2, 0, none⟩ = false := by rw [hw1]; exact free_here (by simp)
  have HCK := hid (check_any P ss l hN hv hn A A2 c c2 w1 ((rs.below hb1).more (by omega)) ((rn.below hb1).more (by omega)))
  have HGD := hid fun (h : chkE P ss l = 0) => (good_of (chkE_zero h).2.2.1).deps
  have HSI := hid fun (h : chkE P ss l = 0) (k : Nat) (hk : k < l.length) (hk1 : kd l k = 1) => (show ∃ s : Nat, (nd l k).sign = s ∧ s < ss.length from by
    rw [kd_at hk] at hk1
    have := sign_ok h hk hk1
    rw [nd_at hk]
    exact ⟨l[k].sign.toNat, by omega, by omega⟩)
  have HCL := hid fun (h : chkE P ss l = 0) (W : World) (hb : Below w.heap.size w W) => cloneN_any l A2 c2 hn W w.heap.size hb.size (rn.below hb)
  have m1 := mrrL_bad (P := P) (ss := ss) (l := l); have m2 := mrrL_ok (P := P) (ss := ss) (l := l)
  generalize mrrL P ss l = L at m1 m2 ⊢
  generalize chkE P ss l = CE at HCK m1 m2 HGD HSI HCL
  have M1 := hid m1; have M2 := hid m2
  clear m1 m2
  obtain ⟨N, hNN⟩ : ∃ N, N = ss.length := ⟨_, rfl⟩
  rw [← hNN] at HCK c1 hw1 hN ⊢
  obtain ⟨n, hnn⟩ : ∃ n, n = l.length := ⟨_, rfl⟩
  rw [← hnn] at HCK c3 hw1 hn HGD HSI HCL ⊢
  try rw [← hnn] at M2
  have HW1 := hid hw1; have HB1 := hid hb1; have HR := hid rn; have HRS := hid rs; have HNN := hid hnn; have HNS := hid hNN
  have hzz : w.heap.size + 1 < w1.heap.size := by omega
  have hzy : w.heap.size + 2 < w1.heap.size := by omega
  have hzx : w.heap.size < w1.heap.size := by omega
  have HC1 := hid fun (wr : World) (h : Below w1.heap.size w1 wr) => (h.cell (p := ⟨w.heap.size, 1, none⟩) hzx).trans c1
  have HC3 := hid fun (wr : World) (h : Below w1.heap.size w1 wr) => (h.cell (p := ⟨w.heap.size + 1, 0, none⟩) hzz).trans c3
  have HC4 := hid fun (wr : World) (h : Below w1.heap.size w1 wr) => (h.cell (p := ⟨w.heap.size + 2, 0, none⟩) hzy).trans c4
  have HZ4 := hid fun (wr : World) (h : Below w1.heap.size w1 wr) => (h.frozen (p := ⟨w.heap.size + 2, 0, none⟩) hzy).trans z4
  have HW : Hid (∀ wr, Below w1.heap.size w1 wr → Below w.heap.size w wr) := fun wr h => hb1.trans (h.mono (by omega))
  clear hw1 hb1 hz1 rs rn hv hnn hNN
  go_enter Try.func47, Try.ntmps47
  go_upto_region 1 with (fail)
  simp only [Nat.add_assoc, Nat.reduceAdd]
  rw [← HW1.out]
  clear HW1
  obtain ⟨B0, hB0⟩ : ∃ B0, B0 = w.heap.size := ⟨_, rfl⟩
  obtain ⟨B1, hB1⟩ : ∃ B1, B1 = B0 + 1 := ⟨_, rfl⟩
  obtain ⟨B2, hB2⟩ : ∃ B2, B2 = B0 + 2 := ⟨_, rfl⟩
  rw [← hB0, ← hB1] at c3 HC3 hzz
  rw [← hB0, ← hB2] at c4 z4 HC4 HZ4 hzy
  rw [← hB0] at c0 c1 HC1 hzx
  have HB0 := hid hB0
  rw [← hB0, ← hB1, ← hB2]
  have hlt : w.heap.size ≤ B2 := by omega
  have hb0 : B0 < B1 := by omega
  have hb2 : B1 < B2 := by omega
  clear hB1 hB2 hB0
  by_cases hCE : CE = 0
  · have f0 : (CE != 0) = false := by simp [hCE]
    have x2 := M2.out hCE
    replace HGD := hid (HGD.out hCE)
    replace HSI := hid (HSI.out hCE)
    replace HCL := hid (HCL.out hCE)
    have X2 := hid x2
    clear M1 M2 x2
    subst hCE
    go_wp2_with (first | (go_at_call 19; refine HCK.out.mono ?_; rintro e w2 ⟨rfl, hb2'⟩; have p1 := HC1.out w2 hb2'; have p3 := HC3.out w2 hb2'; have p3a := fun X => HC3.out (w2.alloc X) (hb2'.alloc hb2'.size X); have HB2 := hid hb2'; clear hb2' HCK c0 c1 c3 c4 z4) | (go_at_call 78; refine (HCL.out _ (HW.out _ HB2.out)).mono ?_; rintro e w5 ⟨v5, rfl, ho5, hb5⟩; obtain ⟨A5, c5, rfl⟩ := own_slice ho5; have HO5 := hid ho5; have HB5 := hid hb5; clear ho5 hb5))
    have hZ2 := HB2.out.size
    clear p1 p3 p3a
    go_loopw [22] (fun kv wr => ∃ k : Nat, k ≤ n ∧ kv = .int .i64 k ∧ Hid (wr.ownsRow w2.heap.size 78 8 (.slice A5 n c5) n (flatN (mixN (mirN ss) l k))) ∧ Hid (Below w2.heap.size w2 wr)) (fun kv _ => n - (intOf kv).toNat)
    case atStart => exact ⟨0, by omega, rfl, by rw [mixN_0]; exact HO5, HB5⟩
    case round =>
      obtain ⟨k, hk, rfl, hO, hB⟩ := hrel
      have hbw : Below w1.heap.size w1 wr := HB2.out.trans (hB.out.mono hZ2)
      by_cases hkn : k < n
      · have hkl : k < l.length := by rw [← HNN.out]; exact hkn
        obtain ⟨g, c6, hv5, hgb, hgl⟩ := own_some hO.out (by omega)
        simp only [Value.slice.injEq, true_and] at hv5
        obtain ⟨rfl, rfl⟩ := hv5
        have hml := mixN_len (mirN ss) l k
        have hx := own_nd hO.out (by rw [hml]; exact HNN.out.symm) (k := k) (by rw [hml]; exact hkl)
        rw [mixN_get hkl] at hx
        have hsg := HSI.out k (by rw [HNN.out]; exact hkl)
        rw [kd_at hkl, nd_at hkl] at hsg
        have hset := fun (X : Obj) (u : Value) (h : (mirN ss l[k]).cells = (l[k].cells).set 4 u) => own_keep (own_set (j := 4) (f := mirN ss) hO.out (Below.refl _ _) hkl (by decide) h) ((Below.refl _ _).alloc (Nat.le_refl _) X)
        have hsame := fun (h : mirN ss l[k] = l[k]) => mixN_same (f := mirN ss) hkl h
        have zz := fun (X : Obj) => free_old (o := X) hgl (hO.out.frozenAt (k * 8 + 4))
        have hnew := fun (X : Obj) => hB.out.alloc hB.out.size X
        have hnes := fun (X : Obj) (u : Value) => (hB.out.setCell (show w2.heap.size ≤ (⟨g, k * 8 + 4, none⟩ : Addr).block from hgb) u).alloc (hB.out.setCell (show w2.heap.size ≤ (⟨g, k * 8 + 4, none⟩ : Addr).block from hgb) u).size X
        have hkeep := fun (X : Obj) => own_keep hO.out ((Below.refl wr.heap.size wr).alloc (Nat.le_refl _) X)
        generalize l[k]'hkl = nd0 at hx hsg hset hsame
        obtain ⟨kk, dp, sg, tn, mi, st, mn, mx⟩ := nd0
        have d1 := hx.kind; have d2 := hx.depth; have d3 := hx.sign; have d4 := hx.turn; have d5 := hx.mir; have d6 := hx.state; have d7 := hx.mn; have d8 := hx.mx
        simp only [] at d1 d2 d3 d4 d5 d6 d7 d8 hsg
        have g0 : (k : Int) < (n : Int) := by omega
        have HNW := hid hnew; have HNE := hid hnes; have HKP := hid hkeep
        clear hx hnew hnes hkeep hml
        by_cases h1 : kk = 1
        · have f1 : (kk == 1) = true := by simp [h1]
          obtain ⟨s, hs, hsl⟩ := hsg h1
          subst hs
          rw [← HNS.out] at hsl
          have hsl2 : (s : Int) < (N : Int) := by omega
          obtain ⟨b1, o1, rfl, hb1', hs3⟩ := HRS.out.at (by rw [← HNS.out]; omega)
          have pe := fun (X : Obj) => ((HW.out _ (hbw.alloc hbw.size X)).cell (p := ⟨b1, o1 + s * 5 + 3, none⟩) hb1').trans (hs3 s (by rw [← HNS.out]; exact hsl)).even
          simp only [← even_at] at pe
          generalize hev : evenOf ss (s : Int) = ev at pe
          have q1 := fun (X : Obj) => HC1.out (wr.alloc X) (hbw.alloc hbw.size X)
          cases ev with
          | true =>
            have HSA := hid (hsame (by simp [mirN, hev]))
            clear hsg hset hsame hs3 hev h1 hsl zz
            go_wp2_with fail
            go_roundw
            case rel => exact ⟨k + 1, by omega, by go_num, by rw [← HSA.out]; exact hid (HKP.out _), hid (HNW.out _)⟩
            case measure => simp [intOf]; omega
          | false =>
            have HSE := hid (fun (X : Obj) => hset X (.bool (!mi)) (by simp [mirN, hev, h1, Nd.cells]))
            clear hsg hset hsame hs3 hev h1 hsl
            go_wp2_with fail
            go_roundw
            case rel => exact ⟨k + 1, by omega, by go_num, hid (HSE.out _), hid (HNE.out _ _)⟩
            case measure => simp [intOf]; omega
        · have f1 : (kk == 1) = false := by simp [h1]
          have HSA := hid (hsame (by simp [mirN, h1]))
          clear hsg hset hsame h1 zz
          go_wp2_with fail
          go_roundw
          case rel => exact ⟨k + 1, by omega, by go_num, by rw [← HSA.out]; exact hid (HKP.out _), hid (HNW.out _)⟩
          case measure => simp [intOf]; omega
      · obtain rfl : n = k := by omega
        have g0 : decide (n < n) = false := by simp
        have p4 := HC4.out wr hbw; have z4 := HZ4.out wr hbw
        have hm := mixN_all (mirN ss) l
        rw [← HNN.out] at hm
        have hO2 := hO.out
        rw [hm, ← X2.out] at hO2
        have HLL : Hid (L.length = n) := by rw [X2.out, List.length_map]; exact HNN.out.symm
        have HO := hid hO2; have HBW := hid hbw
        clear hO hbw hm hO2
        go_wp2_with fail
        have hq := World.cell?_setCell_same _ _ (.slice A5 n c5) p4
        exact bodyPost_ret (v := .tuple #[.agg #[.slice A5 n c5], .int .i64 0]) (by simp [results, Try.results47, go_sem, hq]) rfl ⟨.slice A5 n c5, rfl, by rw [HLL.out]; have h9 := HO.out; exact own_base (ownsRow_setCell_other h9 (a := ⟨B2, 0, none⟩) (fun he => by have := (h9.lt _ he).1; simp at this <;> omega) _) (by omega), (HW.out _ HBW.out).setCell hlt _⟩
  · have f0 : (CE != 0) = true := by simp [hCE]
    have x2 := M1.out hCE
    have X2 := hid x2
    clear x2
    clear M1 M2 hCE
    go_wp2_with (first | (go_at_call 19; refine HCK.out.mono ?_; rintro e w2 ⟨rfl, hb2'⟩; have p4 := HC4.out w2 hb2'; have q4 := HZ4.out w2 hb2'; have HB2 := hid hb2'; clear hb2' HCK c0 c1 c3 c4 z4))
    have hq := World.cell?_setCell_same _ _ (.slice none 0 0) p4
    exact bodyPost_ret (v := .tuple #[.agg #[.slice none 0 0], .int .i64 CE]) (by simp [results, Try.results47, go_sem, hq]) rfl ⟨.slice none 0 0, rfl, by rw [X2.out]; exact World.ownsRow_nil _ _ _ _, (HW.out _ HB2.out).setCell hlt _⟩
end Go.Proofs.Ytddbnggficlcfaa
