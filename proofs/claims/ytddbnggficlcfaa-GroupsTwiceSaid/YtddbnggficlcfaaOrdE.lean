/- groups.Order. -/
import Derived.Test.YtddbnggficlcfaaLine2
import Derived.Test.YtddbnggficlcfaaChk2
namespace Go.Proofs.Ytddbnggficlcfaa
open Go.RowKit
theorem cell_new1_at {n : Nat} (w : World) (x : Value) (t : TypeId) (hn : n = w.heap.size) : (w.alloc (.cells #[x] t)).cell? ⟨n, 0, none⟩ = some x := by subst hn; exact cell_new1 w x t
theorem flatM_get : ∀ (l : List Mk) (k j : Nat) (hk : k < l.length), j < 4 → (flatM l)[k * 4 + j]? = (l[k].cells)[j]?
  | a :: l, 0, j, _, hj => by
    unfold flatM
    rw [List.flatMap_cons, Nat.zero_mul, Nat.zero_add, List.getElem?_append_left (by simpa [Mk.cells] using hj)]
    rfl
  | a :: l, k + 1, j, hk, hj => by
    have ih := flatM_get l k j (by simpa using hk) hj
    unfold flatM at ih ⊢
    rw [List.flatMap_cons, List.getElem?_append_right (by simp only [Mk.cells, List.length_cons, List.length_nil]; omega)]
    have e : (k + 1) * 4 + j - a.cells.length = k * 4 + j := by simp only [Mk.cells, List.length_cons, List.length_nil]; omega
    rw [e, ih]
    rfl
def Mks (w : World) (B : Nat) (A : Option Addr) (l : List Mk) : Prop := Reads w B 4 A l.length (flatM l)
structure MkAt (w : World) (b o : Nat) (m : Mk) : Prop where
  sign : w.cell? ⟨b, o, none⟩ = some (.int .i64 m.sign)
  state : w.cell? ⟨b, o + 1, none⟩ = some (.int .i64 m.state)
  mn : w.cell? ⟨b, o + 2, none⟩ = some (.int .i64 m.mn)
  mx : w.cell? ⟨b, o + 3, none⟩ = some (.int .i64 m.mx)
theorem Mks.at {w : World} {B : Nat} {A : Option Addr} {l : List Mk} (h : Mks w B A l) (hl : 0 < l.length) :
    ∃ b o, A = some ⟨b, o, none⟩ ∧ b < B ∧ ∀ k (hk : k < l.length), MkAt w b (o + k * 4) l[k] := by
  obtain ⟨b, o, rfl, hb, hc⟩ := Reads.at0 h hl (by rw [flatM_len]; omega)
  refine ⟨b, o, rfl, hb, fun k hk => ?_⟩
  have hx : ∀ j u, j < 4 → (l[k].cells)[j]? = some u → w.cell? ⟨b, o + k * 4 + j, none⟩ = some u := fun j u hj hu => by
    rw [Nat.add_assoc]
    exact hc _ u (by rw [flatM_get l k j hk hj]; exact hu)
  exact ⟨hx 0 _ (by omega) rfl, hx 1 _ (by omega) rfl, hx 2 _ (by omega) rfl, hx 3 _ (by omega) rfl⟩
theorem MkAt.below {w w' : World} {B b o : Nat} {m : Mk} (h : MkAt w b o m) (hb : Below B w w') (hB : b < B) : MkAt w' b o m :=
  have c : ∀ j, w'.cell? ⟨b, j, none⟩ = w.cell? ⟨b, j, none⟩ := fun j => hb.cell (p := ⟨b, j, none⟩) hB
  ⟨(c _).trans h.sign, (c _).trans h.state, (c _).trans h.mn, (c _).trans h.mx⟩
theorem good_hon {P : Int} {ss : List Sg} {l : List Nd} (h : chkE P ss l = 0) : HonOk l := fun i hi h7 => by
  obtain ⟨_, _, h3, h4⟩ := chkE_zero h
  have := (h4 i hi).1
  rw [h7, if_neg (by decide), if_neg (by decide), if_neg (by decide)] at this
  exact this.1
def sgns (ms : List Mk) : List Int := ms.map Mk.sign
def noGap (ms : List Mk) : Prop := ∀ m ∈ ms, ¬ m.sign < 0
open Classical in
noncomputable def ordE (P : Int) (ss : List Sg) (l : List Nd) : Int := if chkE P ss l ≠ 0 then chkE P ss l else if noGap (marks l) then 0 else 22
noncomputable def ordL (P : Int) (ss : List Sg) (l : List Nd) : List Int := if ordE P ss l = 0 then sgns (marks l) else []
theorem ordE_bad {P : Int} {ss : List Sg} {l : List Nd} (h : chkE P ss l ≠ 0) : ordE P ss l = chkE P ss l ∧ ordL P ss l = [] := by
  have h1 : ordE P ss l = chkE P ss l := if_pos h
  exact ⟨h1, by unfold ordL; rw [h1, if_neg h]⟩
theorem ordE_gap {P : Int} {ss : List Sg} {l : List Nd} (h : chkE P ss l = 0) (h2 : ¬ noGap (marks l)) : ordE P ss l = 22 ∧ ordL P ss l = [] := by
  have h1 : ordE P ss l = 22 := by unfold ordE; rw [if_neg (by simp [h]), if_neg h2]
  exact ⟨h1, by unfold ordL; rw [h1, if_neg (by decide)]⟩
theorem ordE_ok {P : Int} {ss : List Sg} {l : List Nd} (h : chkE P ss l = 0) (h2 : noGap (marks l)) : ordE P ss l = 0 ∧ ordL P ss l = sgns (marks l) := by
  have h1 : ordE P ss l = 0 := by unfold ordE; rw [if_neg (by simp [h]), if_pos h2]
  exact ⟨h1, by unfold ordL; rw [h1, if_pos rfl]⟩
set_option maxRecDepth 100000 in
set_option maxHeartbeats 4000000 in
theorem orderE_any (P : Int) (ss : List Sg) (l : List Nd) (hN : ss.length ≤ 1000000) (hv : ∀ s ∈ ss, s.vals.length ≤ 1000000 ∧ s.vals.length ≤ s.vc) (hn : l.length ≤ 1000000) (hml : (marks l).length ≤ 1000000) (A A2 : Option Addr) (c c2 : Nat) (w : World) (rs : Sgs w w.heap.size A ss) (rn : Nds w w.heap.size A2 l) :
    Calls Try.prog 30 #[.agg #[.int .i64 P, .slice A ss.length c], .agg #[.slice A2 l.length c2]] w fun e w' => ∃ v, e = .returned (.tuple #[v, .int .i64 (ordE P ss l)]) ∧ w'.ownsRow w.heap.size 3 1 v (ordL P ss l).length (ints (ordL P ss l)) ∧ Below w.heap.size w w' := by
  obtain ⟨w1, hw1⟩ : ∃ w1, w1 = (w.alloc (.cells #[.int .i64 P, .slice A ss.length c] 24)).alloc (.cells #[.slice A2 l.length c2] 27) := ⟨_, rfl⟩
  have hb1 : Below w.heap.size w w1 := by rw [hw1]; exact ((Below.refl _ _).alloc (Nat.le_refl _) _).alloc (by simp) _
  have hz1 : w1.heap.size = w.heap.size + 2 := by rw [hw1]; simp
  have c2' : w1.cell? ⟨w.heap.size + 1, 0, none⟩ = some (.slice A2 l.length c2) := by rw [hw1]; exact cell_here (by simp) rfl
  have HCK := hid (check_any P ss l hN hv hn A A2 c c2 w1 ((rs.below hb1).more (by omega)) ((rn.below hb1).more (by omega)))
  have HLI := hid fun (h : chkE P ss l = 0) (W : World) (hb : Below w.heap.size w W) => line_any l hn (good_hon h) A2 c2 W.heap.size W (Nat.le_refl _) ((rn.below hb).more hb.size)
  have m1 := ordE_bad (P := P) (ss := ss) (l := l); have m2 := ordE_gap (P := P) (ss := ss) (l := l); have m3 := ordE_ok (P := P) (ss := ss) (l := l)
  generalize ordE P ss l = E at m1 m2 m3 ⊢
  generalize ordL P ss l = L at m1 m2 m3 ⊢
  generalize chkE P ss l = CE at HCK HLI m1 m2 m3
  generalize ss.length = N at HCK hw1 ⊢
  generalize l.length = n at HCK HLI hw1 c2' ⊢
  generalize marks l = ms at HLI m2 m3 hml
  obtain ⟨nm, hnm⟩ : ∃ nm, nm = ms.length := ⟨_, rfl⟩
  rw [← hnm] at HLI hml
  have HW1 := hid hw1; have HB1 := hid hb1; have HZ1 := hid hz1; have HNM := hid hnm
  have M1 := hid m1; have M2 := hid m2; have M3 := hid m3
  have hzz : w.heap.size + 1 < w1.heap.size := by omega
  have HC2 := hid fun (wr : World) (h : Below w1.heap.size w1 wr) => (h.cell (p := ⟨w.heap.size + 1, 0, none⟩) hzz).trans c2'
  have HW : Hid (∀ wr, Below w1.heap.size w1 wr → Below w.heap.size w wr) := fun wr h => hb1.trans (h.mono (by omega))
  clear hw1 hb1 hz1 m1 m2 m3 rs rn hv hN c2' hnm
  go_enter Try.func30, Try.ntmps30
  go_upto_region 1 with (fail)
  have c0 : w1.cell? ⟨w.heap.size, 0, none⟩ = some (.int .i64 P) := by rw [HW1.out]; exact cell_old (cell_here rfl rfl)
  have c1 : w1.cell? ⟨w.heap.size, 1, none⟩ = some (.slice A N c) := by rw [HW1.out]; exact cell_old (cell_here rfl rfl)
  have c3 : w1.cell? ⟨w.heap.size + 1, 0, none⟩ = some (.slice A2 n c2) := by rw [HW1.out]; exact cell_here (by simp) rfl
  rw [← HW1.out]
  clear HW1
  by_cases hCE : CE = 0
  · have f0 : (CE != 0) = false := by simp [hCE]
    replace HLI := hid (HLI.out hCE)
    replace M2 := hid (M2.out hCE); replace M3 := hid (M3.out hCE)
    clear M1
    subst hCE
    go_wp2_with (first | (go_at_call 19; refine HCK.out.mono ?_; rintro e w2 ⟨rfl, hb2⟩; have p2 := HC2.out w2 hb2; have HL2 := hid (HLI.out w2 (HW.out _ hb2)); have HB2 := hid hb2; clear hb2 HCK c0 c1 c3 HLI) | (go_at_call 68; refine HL2.out.mono ?_; rintro e w3 ⟨v3, rfl, ho3, hb3⟩; obtain ⟨A3, c3, rfl⟩ := own_slice ho3; have HM := hid (show Mks w3 w3.heap.size A3 ms from by unfold Mks; rw [← HNM.out]; exact Reads.of_own ho3); have HB3 := hid (HB2.out.trans (hb3.mono HB2.out.size)); clear ho3 hb3 p2 HL2))
    go_loopw [7, 19] (fun vv kv wr => ∃ k : Nat, k ≤ nm ∧ kv = .int .i64 k ∧ Hid (∀ m ∈ ms.take k, ¬ m.sign < 0) ∧ Hid (wr.ownsRow w3.heap.size 3 1 vv (sgns (ms.take k)).length (ints (sgns (ms.take k)))) ∧ Hid (Below w3.heap.size w3 wr)) (fun _ kv _ => nm - (intOf kv).toNat)
    case atStart => exact ⟨0, by omega, rfl, hid (fun m hm => by simp at hm), World.ownsRow_nil _ _ _ _, Below.refl _ _⟩
    case round =>
      obtain ⟨k, hk, rfl, hP, hO, hB⟩ := hrel
      obtain ⟨A5, c5, rfl⟩ := own_slice hO.out
      have HBW := hid (HW.out _ (HB3.out.trans (hB.out.mono HB3.out.size)))
      by_cases hkn : k < nm
      · have hkl : k < ms.length := by rw [← HNM.out]; exact hkn
        have hq : (k : Int) < (nm : Int) := by omega
        obtain ⟨b, o, rfl, hb, hc⟩ := HM.out.at (by omega)
        have hx := (hc k hkl).below hB.out hb
        have hst : ms.take (k + 1) = ms.take k ++ [ms[k]'hkl] := by rw [List.take_add_one, List.getElem?_eq_getElem hkl, Option.toList_some]
        have hlen : (ms.take k).length = k := by rw [List.length_take]; omega
        have hng : (ms[k]'hkl).sign < 0 → ¬ noGap ms := fun h h2 => h2 _ (List.getElem_mem hkl) h
        generalize ms[k]'hkl = m at hx hst hng
        obtain ⟨m1, m2, m3, m4⟩ := m
        have d1 := hx.sign; have d2 := hx.state; have d3 := hx.mn; have d4 := hx.mx
        simp only [] at d1 d2 d3 d4 hng
        by_cases hneg : m1 < 0
        · have f1 : decide (m1 < 0) = true := decide_eq_true hneg
          obtain ⟨x1, x2⟩ := M2.out (hng hneg)
          have X1 := hid x1; have X2 := hid x2
          clear M2 M3 x1 x2 hng hst hx hc hP
          go_wp2_with fail
          go_ret2
          exact ⟨.slice none 0 0, by rw [X1.out]; rfl, by rw [X2.out]; exact World.ownsRow_nil _ _ _ _, HBW.out.alloc HBW.out.size _⟩
        · have f1 : decide (m1 < 0) = false := decide_eq_false hneg
          have hP2 : ∀ m ∈ ms.take (k + 1), ¬ m.sign < 0 := fun m hm => by
            rw [hst] at hm
            rcases List.mem_append.1 hm with hm | hm
            · exact hP.out m hm
            · obtain rfl := List.mem_singleton.1 hm
              exact hneg
          have hs2 : sgns (ms.take (k + 1)) = sgns (ms.take k) ++ [m1] := by rw [hst]; unfold sgns; rw [List.map_append]; rfl
          have hsl : (sgns (ms.take k)).length = k := by unfold sgns; rw [List.length_map, hlen]
          have HP2 := hid hP2; have HS2 := hid hs2; have HSL := hid hsl
          have ho2 := hO.out
          rw [hsl] at ho2
          have HO2 := hid ho2
          have hz : w3.heap.size ≤ wr.heap.size := hB.out.size
          clear hP hO hP2 hs2 hsl ho2 hst hx hc hng hlen M2 M3
          rw [HSL.out]
          have HBA := hid fun (x y : Obj) => (hB.out.alloc hB.out.size x).alloc (by simp; omega) y
          go_wp2_with (first | (at_builtin; refine app_one rfl (.tmp 26) (.tmp 29) Try.underlying38 Try.infoInt rfl (by decide) rfl w3.heap.size _ k _ rfl ((HO2.out.alloc _).alloc _) ⟨wr.heap.size + 1, 0, none⟩ (.int .i64 m1) rfl (cell_new1_at _ _ _ (by simp)) rfl (by omega) (by simp; omega) ?_; intro v6 w6 ho6 hg6; have HO6 := hid ho6; have HB6 := hid (below_app (HBA.out _ _) ((HO2.out.alloc _).alloc _) hg6 (Nat.le_refl _) (by simp; omega)); clear ho6 hg6))
          go_roundw
          case rel => exact ⟨k + 1, by omega, by go_num, HP2.out, by rw [HS2.out, List.length_append, ints_append, HSL.out]; exact HO6.out, HB6.out⟩
          case measure => simp [intOf]; omega
      · obtain rfl : nm = k := by omega
        have hfull : ms.take nm = ms := by rw [HNM.out, List.take_length]
        have hP2 := hP.out; have hO2 := hO.out
        rw [hfull] at hP2 hO2
        obtain ⟨x1, x2⟩ := M3.out hP2
        have X1 := hid x1; have X2 := hid x2; have HO2 := hid (own_base hO2 (HW.out _ HB3.out).size)
        have hl : (sgns (ms.take nm)).length = (sgns ms).length := by rw [hfull]
        have HL := hid hl
        clear M2 M3 x1 x2 hfull hP2 hO2 hP hO hl
        go_wp2_with fail
        go_ret2
        exact ⟨.slice A5 (sgns (List.take nm ms)).length c5, by rw [X1.out]; rfl, by rw [X2.out, HL.out]; exact HO2.out, HBW.out⟩
  · have f0 : (CE != 0) = true := by simp [hCE]
    obtain ⟨x1, x2⟩ := M1.out hCE
    have X1 := hid x1; have X2 := hid x2
    clear M1 M2 M3 hCE x1 x2 HLI
    go_wp2_with (first | (go_at_call 19; refine HCK.out.mono ?_; rintro e w2 ⟨rfl, hb2⟩; have HB2 := hid hb2; clear hb2 HCK c0 c1 c3))
    go_ret2
    exact ⟨.slice none 0 0, by rw [X1.out]; rfl, by rw [X2.out]; exact World.ownsRow_nil _ _ _ _, HW.out _ HB2.out⟩
end Go.Proofs.Ytddbnggficlcfaa
