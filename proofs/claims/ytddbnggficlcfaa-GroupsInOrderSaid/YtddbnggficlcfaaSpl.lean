/- groups.Splice. -/
import Derived.Test.YtddbnggficlcfaaSplL
import Derived.Test.YtddbnggficlcfaaColl
import Derived.Deep.Slices
import Derived.Deep.AppendLies
namespace Go.Proofs.Ytddbnggficlcfaa
open Go.RowKit Go.Shelf
open Classical in
noncomputable def spE (P : Int) (ss : List Sg) (l wt : List Nd) (fr t2 : Int) : Int :=
  if chkE P ss l ≠ 0 then chkE P ss l else if chkE P ss wt ≠ 0 then chkE P ss wt else if fr < 0 ∨ t2 < fr ∨ ((kidsOf l (-1)).length : Int) < t2 then 1 else if 200 < (spO l wt fr.toNat t2.toNat).length then 2 else 0
open Classical in
noncomputable def spL (P : Int) (ss : List Sg) (l wt : List Nd) (fr t2 : Int) : List Nd := if spE P ss l wt fr t2 = 0 then spO l wt fr.toNat t2.toNat else []
section
variable {P : Int} {ss : List Sg} {l wt : List Nd} {fr t2 : Int}
theorem sp_a (h : chkE P ss l ≠ 0) : spL P ss l wt fr t2 = [] ∧ spE P ss l wt fr t2 = chkE P ss l := by
  have h1 : spE P ss l wt fr t2 = chkE P ss l := if_pos h
  exact ⟨by unfold spL; rw [h1, if_neg h], h1⟩
theorem sp_b (h : chkE P ss l = 0) (h2 : chkE P ss wt ≠ 0) : spL P ss l wt fr t2 = [] ∧ spE P ss l wt fr t2 = chkE P ss wt := by
  have h1 : spE P ss l wt fr t2 = chkE P ss wt := by unfold spE; rw [if_neg (by simp [h]), if_pos h2]
  exact ⟨by unfold spL; rw [h1, if_neg h2], h1⟩
theorem sp_c (h : chkE P ss l = 0) (h2 : chkE P ss wt = 0) : (fr < 0 ∨ t2 < fr ∨ ((kidsOf l (-1)).length : Int) < t2 → spL P ss l wt fr t2 = [] ∧ spE P ss l wt fr t2 = 1) ∧
    (¬ (fr < 0 ∨ t2 < fr ∨ ((kidsOf l (-1)).length : Int) < t2) → (200 < (spO l wt fr.toNat t2.toNat).length → spL P ss l wt fr t2 = [] ∧ spE P ss l wt fr t2 = 2) ∧ (¬ 200 < (spO l wt fr.toNat t2.toNat).length → spL P ss l wt fr t2 = spO l wt fr.toNat t2.toNat ∧ spE P ss l wt fr t2 = 0)) := by
  refine ⟨fun h3 => ?_, fun h3 => ⟨fun h4 => ?_, fun h4 => ?_⟩⟩
  · have h1 : spE P ss l wt fr t2 = 1 := by unfold spE; rw [if_neg (by simp [h]), if_neg (by simp [h2]), if_pos h3]
    exact ⟨by unfold spL; rw [h1, if_neg (by decide)], h1⟩
  · have h1 : spE P ss l wt fr t2 = 2 := by unfold spE; rw [if_neg (by simp [h]), if_neg (by simp [h2]), if_neg h3, if_pos h4]
    exact ⟨by unfold spL; rw [h1, if_neg (by decide)], h1⟩
  · have h1 : spE P ss l wt fr t2 = 0 := by unfold spE; rw [if_neg (by simp [h]), if_neg (by simp [h2]), if_neg h3, if_neg h4]
    exact ⟨by unfold spL; rw [h1, if_pos rfl], h1⟩
end
theorem bnx3 {w1 w w' : World} (h : Below w1.heap.size w1 w) (hb : Below w.heap.size w w') : Below w1.heap.size w1 w' := h.trans (hb.mono h.size)
/-- An array of one number. -/
structure Ar (w : World) (b : Nat) (v : Value) : Prop where
  lt : b < w.heap.size
  cell : w.cell? ⟨b, 0, none⟩ = some v
theorem Ar.new {w : World} {b : Nat} {v : Value} {T : TypeId} (h : b = w.heap.size) : Ar (w.alloc (.cells #[v] T)) b v := ⟨by rw [h]; simp, cell_here h rfl⟩
theorem Ar.kept {w w' : World} {b : Nat} {v : Value} (h : Ar w b v) (hb : Below w.heap.size w w') : Ar w' b v := ⟨Nat.lt_of_lt_of_le h.lt hb.size, (hb.cell (p := ⟨b, 0, none⟩) h.lt).trans h.cell⟩
theorem bal2 {w w' : World} (h : Below w.heap.size w w') (o : Obj) : Below w.heap.size w (w'.alloc o) := h.alloc h.size o
theorem KK.kept {l : List Nd} {A : Option Addr} {c n0 b1 b2 : Nat} {node : Int} {W W' : World} (h : KK l A c node n0 b1 b2 W) (hn : n0 ≤ W.heap.size) (hb : Below W.heap.size W W') : KK l A c node n0 b1 b2 W' :=
  ⟨(hb.block _ (lt_of_block h.l_)).trans h.l_, (hb.block _ (lt_of_block h.n_)).trans h.n_, h.nds.below (hb.mono hn)⟩
theorem at_get {l : List Nd} {i : Nat} (h : i ≤ (kidsOf l (-1)).length) : (ints (nz (kidsOf l (-1))) ++ [Value.int .i64 (l.length : Int)])[i]? = some (.int .i64 (posG l i : Int)) := by
  rcases Nat.eq_or_lt_of_le h with rfl | h2
  · rw [posG_end, List.getElem?_append_right (by simp [nz])]
    simp [nz]
  · rw [posG_at h2, List.getElem?_append_left (by simpa [nz] using h2)]
    simp [ints, nz, h2]
theorem Nds.take {w : World} {B k : Nat} {A : Option Addr} {l : List Nd} (h : Nds w B A l) (hk : k ≤ l.length) : Nds w B A (l.take k) := by
  have hl : (l.take k).length = k := by simp; omega
  refine ⟨by rw [flatN_len], fun hn => ?_⟩
  rw [hl] at hn
  obtain ⟨ad, e, hb, hc⟩ := h.2 (by omega)
  refine ⟨ad, e, hb, fun j u hu => ?_⟩
  rw [flatN_take, List.getElem?_take] at hu
  split at hu
  · exact hc _ u hu
  · cases hu
theorem Nds.drop {w : World} {B k c : Nat} {A : Option Addr} {l : List Nd} (h : Nds w B A l) (hc : l.length ≤ c) : Nds w B (if c = k then A else Option.map (fun x => x.add (k * 8)) A) (l.drop k) := by
  have hl : (l.drop k).length = l.length - k := by simp
  refine ⟨by rw [flatN_len], fun hn => ?_⟩
  rw [hl] at hn
  obtain ⟨ad, e, hb, hcl⟩ := h.2 (by omega)
  subst e
  rw [if_neg (by omega)]
  refine ⟨ad.add (k * 8), rfl, by rw [block_of_add]; exact hb, fun j u hu => ?_⟩
  rw [flatN_drop, List.getElem?_drop] at hu
  rw [Go.Deep.add_add]
  exact hcl _ u hu
theorem spO_len {l wt : List Nd} {f t : Nat} (h1 : f ≤ t) (h2 : t ≤ (kidsOf l (-1)).length) : (spO l wt f t).length = posG l f + wt.length + (l.length - posG l t) := by
  unfold spO
  have := posG_le (l := l) (i := f) (by omega)
  simp [Nat.min_eq_left this]
  omega
set_option maxRecDepth 100000 in
set_option maxHeartbeats 8000000 in
theorem spliceE_any (P : Int) (ss : List Sg) (l wt : List Nd) (fr t2 : Int) (hN : ss.length ≤ 1000000) (hv : ∀ s ∈ ss, s.vals.length ≤ 1000000 ∧ s.vals.length ≤ s.vc) (hn : l.length ≤ 1000000) (hm : wt.length ≤ 1000000) (A A2 A3 : Option Addr) (c c2 c3 : Nat) (w : World) (rs : Sgs w w.heap.size A ss) (rn : Nds w w.heap.size A2 l) (rt : Nds w w.heap.size A3 wt) (hroom : l.length ≤ c2) :
    Calls Try.prog 37 #[.agg #[.int .i64 P, .slice A ss.length c], .agg #[.slice A2 l.length c2], .int .i64 fr, .int .i64 t2, .agg #[.slice A3 wt.length c3]] w (TxtPost (spE P ss l wt fr t2) (spL P ss l wt fr t2) w) := by
  obtain ⟨w1, hw1⟩ : ∃ w1, w1 = (((w.alloc (.cells #[.int .i64 P, .slice A ss.length c] 24)).alloc (.cells #[.slice A2 l.length c2] 27)).alloc (.cells #[.slice A3 wt.length c3] 27)).alloc (.cells #[.slice none 0 0] 27) := ⟨_, rfl⟩
  have hb1 : Below w.heap.size w w1 := by rw [hw1]; exact ((((Below.refl _ _).alloc (Nat.le_refl _) _).alloc (by simp) _).alloc (by simp; omega) _).alloc (by simp; omega) _
  have hz1 : w1.heap.size = w.heap.size + 4 := by rw [hw1]; simp
  have k0 : w1.cell? ⟨w.heap.size, 0, none⟩ = some (.int .i64 P) := by rw [hw1]; exact cell_old (cell_old (cell_old (cell_here rfl rfl)))
  have k1 : w1.cell? ⟨w.heap.size, 1, none⟩ = some (.slice A ss.length c) := by rw [hw1]; exact cell_old (cell_old (cell_old (cell_here rfl rfl)))
  have k2 : w1.cell? ⟨w.heap.size + 1, 0, none⟩ = some (.slice A2 l.length c2) := by rw [hw1]; exact cell_old (cell_old (cell_here (by simp) rfl))
  have k3 : w1.cell? ⟨w.heap.size + 2, 0, none⟩ = some (.slice A3 wt.length c3) := by rw [hw1]; exact cell_old (cell_here (by simp) rfl)
  have k4 : w1.cell? ⟨w.heap.size + 3, 0, none⟩ = some (.slice none 0 0) := by rw [hw1]; exact cell_here (by simp) rfl
  have z4 : w1.frozen? ⟨w.heap.size + 3, 0, none⟩ = false := by rw [hw1]; exact free_here (by simp)
  have HCA := hid (check_any P ss l hN hv hn A A2 c c2 w1 ((rs.below hb1).more (by omega)) ((rn.below hb1).more (by omega)))
  have HCB := hid fun (W : World) (hb : Below w.heap.size w W) => check_any P ss wt hN hv hm A A3 c c3 W ((rs.below hb).more hb.size) ((rt.below hb).more hb.size)
  have HCO := hid fun (W : World) (n0 b1 b2 : Nat) (hK : KK l A2 c2 (-1) n0 b1 b2 W) (h : n0 ≤ W.heap.size) => collect_any l (-1) (by omega) (by omega) hn A2 c2 n0 b1 b2 W hK h
  have HKN := hid fun (W : World) (hb : Below w.heap.size w W) => kids_kk (node := -1) (c := c2) ((rn.below hb).more hb.size) (Nat.le_refl _)
  have m1 := sp_a (P := P) (ss := ss) (l := l) (wt := wt) (fr := fr) (t2 := t2); have m2 := sp_b (P := P) (ss := ss) (l := l) (wt := wt) (fr := fr) (t2 := t2); have m3 := sp_c (P := P) (ss := ss) (l := l) (wt := wt) (fr := fr) (t2 := t2)
  have hgl := kidsOf_len (l := l) (node := -1) (by omega)
  obtain ⟨ng, hng⟩ : ∃ ng, ng = (kidsOf l (-1)).length := ⟨_, rfl⟩
  rw [← hng] at m3 hgl HCO
  generalize spL P ss l wt fr t2 = L at m1 m2 m3 ⊢
  generalize spE P ss l wt fr t2 = E at m1 m2 m3 ⊢
  generalize chkE P ss l = CA at HCA m1 m2 m3
  generalize chkE P ss wt = CB at HCB m2 m3
  have M1 := hid m1; have M2 := hid m2; have M3 := hid m3; have HNG := hid hng
  obtain ⟨N, hNN⟩ : ∃ N, N = ss.length := ⟨_, rfl⟩
  obtain ⟨n, hnn⟩ : ∃ n, n = l.length := ⟨_, rfl⟩
  obtain ⟨m, hmm⟩ : ∃ m, m = wt.length := ⟨_, rfl⟩
  rw [← hNN] at HCA HCB k1 hw1
  rw [← hnn] at HCA k2 hw1 hn hgl hroom HKN
  rw [← hmm] at HCB k3 hw1 hm
  rw [← hNN, ← hnn, ← hmm]
  have HW1 := hid hw1; have HB1 := hid hb1; have HRN := hid rn; have HRT := hid rt; have HNN := hid hnn; have HMM := hid hmm
  have hzp : w.heap.size < w1.heap.size := by omega
  have hzq : w.heap.size + 1 < w1.heap.size := by omega
  have hzr : w.heap.size + 2 < w1.heap.size := by omega
  have hzs : w.heap.size + 3 < w1.heap.size := by omega
  have HK0 := hid fun (wr : World) (h : Below w1.heap.size w1 wr) => (h.cell (p := ⟨w.heap.size, 0, none⟩) hzp).trans k0
  have HK1 := hid fun (wr : World) (h : Below w1.heap.size w1 wr) => (h.cell (p := ⟨w.heap.size, 1, none⟩) hzp).trans k1
  have HK2 := hid fun (wr : World) (h : Below w1.heap.size w1 wr) => (h.cell (p := ⟨w.heap.size + 1, 0, none⟩) hzq).trans k2
  have HK3 := hid fun (wr : World) (h : Below w1.heap.size w1 wr) => (h.cell (p := ⟨w.heap.size + 2, 0, none⟩) hzr).trans k3
  have HK4 := hid fun (wr : World) (h : Below w1.heap.size w1 wr) => (h.cell (p := ⟨w.heap.size + 3, 0, none⟩) hzs).trans k4
  have HZ4 := hid fun (wr : World) (h : Below w1.heap.size w1 wr) => (h.frozen (p := ⟨w.heap.size + 3, 0, none⟩) hzs).trans z4
  have HW : Hid (∀ wr, Below w1.heap.size w1 wr → Below w.heap.size w wr) := fun wr h => hb1.trans (h.mono (by omega))
  clear hw1 hb1 hz1 rs rn rt hv hNN hnn hmm m1 m2 m3 hng
  go_enter Try.func37, Try.ntmps37
  go_upto_region 1 with (fail)
  simp only [Nat.add_assoc, Nat.reduceAdd]
  rw [← HW1.out]
  clear HW1
  obtain ⟨B0, hB0⟩ : ∃ B0, B0 = w.heap.size := ⟨_, rfl⟩
  obtain ⟨B1, hB1⟩ : ∃ B1, B1 = B0 + 1 := ⟨_, rfl⟩
  obtain ⟨B2, hB2⟩ : ∃ B2, B2 = B0 + 2 := ⟨_, rfl⟩
  obtain ⟨B3, hB3⟩ : ∃ B3, B3 = B0 + 3 := ⟨_, rfl⟩
  rw [← hB0, ← hB1] at k2 HK2 hzq
  rw [← hB0, ← hB2] at k3 HK3 hzr
  rw [← hB0, ← hB3] at k4 z4 HK4 HZ4 hzs
  rw [← hB0] at k0 k1 HK0 HK1 hzp
  have HB0 := hid hB0
  rw [← hB0, ← hB1, ← hB2, ← hB3]
  have hlt : w.heap.size ≤ B3 := by omega
  have hlw : w.heap.size ≤ w1.heap.size := HB1.out.size
  have hb0 : B0 < B1 := by omega
  have hb2 : B1 < B2 := by omega
  have hb3 : B2 < B3 := by omega
  clear hB1 hB2 hB0 hB3
  by_cases hCA : CA = 0
  · have f0 : (CA != 0) = false := by simp [hCA]
    replace M2 := hid (M2.out hCA); replace M3 := hid (M3.out hCA)
    clear M1
    subst hCA
    go_upto_region 4 with (first | (go_at_call 19; refine HCA.out.mono ?_; rintro e w2 ⟨rfl, hb2'⟩; have HB2 := hid hb2'; clear hb2' HCA k0 k1 k2 k3 k4 z4))
    have q0 := HK0.out w2 HB2.out; have q1 := HK1.out w2 HB2.out; have q3 := HK3.out w2 HB2.out
    by_cases hCB : CB = 0
    · have f1 : (CB != 0) = false := by simp [hCB]
      replace M3 := hid (M3.out hCB)
      clear M2
      subst hCB
      go_upto_region 7 with (first | (go_at_call 19; refine (HCB.out _ (HW.out _ HB2.out)).mono ?_; rintro e w3 ⟨rfl, hb3'⟩; have HB3 := hid (HB2.out.trans (hb3'.mono HB2.out.size)); clear hb3' HCB q0 q1 q3))
      have q2 := HK2.out w3 HB3.out
      have q2a := fun (X : Obj) => HK2.out _ (HB3.out.alloc HB3.out.size X)
      go_cut [14] (fun s14 wx => ∃ (A : Option Addr) (c : Nat), s14 = .slice A (ng + 1) c ∧ Hid (wx.ownsRow w3.heap.size 3 1 (.slice A (ng + 1) c) (ng + 1) (ints (nz (kidsOf l (-1))) ++ [.int .i64 n])) ∧ Hid (Below w3.heap.size w3 wx))
      case first =>
        go_region_law (first
          | (go_simp; go_at_call 66; refine (kids_any A2 n c2 (-1) _).mono ?_; rintro e w4 ⟨rfl, hw4⟩; have hkk : KK l A2 c2 (-1) _ _ _ w4 := (by rw [hw4]; exact HKN.out _ (HW.out _ (bnx3 HB3.out (by first | exact HX5.out | exact bal2 HX5.out _ | exact HX4.out | exact bal2 HX4.out _ | exact (Below.refl _ _).drew | exact bal2 (Below.refl _ _).drew _ | exact (bal2 (Below.refl _ _) _).drew | exact Below.refl _ _ | exact bal2 (Below.refl _ _) _)))); (try simp at hkk); have HKK := hid hkk; have HX4 := hid (show Below w3.heap.size w3 w4 from (by rw [hw4]; exact bal2 (bal2 (by first | exact HX5.out | exact bal2 HX5.out _ | exact HX4.out | exact bal2 HX4.out _ | exact (Below.refl _ _).drew | exact bal2 (Below.refl _ _).drew _ | exact (bal2 (Below.refl _ _) _).drew | exact Below.refl _ _ | exact bal2 (Below.refl _ _) _) _) _)); have hk2 := HK2.out w4 (bnx3 HB3.out HX4.out); (first | (have ar := hid (show Ar w4 w3.heap.size (.int .i64 n) from Ar.kept (Ar.new (w := w3.drew) (b := w3.heap.size) (v := .int .i64 n) (T := 3) rfl) (by rw [hw4]; exact bal2 (bal2 (Below.refl _ _) _) _)); skip) | (have ar := hid (show Ar w4 w3.heap.size (.int .i64 n) from Ar.kept (Ar.new (w := w3) (b := w3.heap.size) (v := .int .i64 n) (T := 3) rfl) (by rw [hw4]; first | exact bal2 (bal2 (Below.refl _ _) _) _ | exact bal2 (bal2 (Below.refl _ _).drew _) _)); skip) | skip); clear hw4 hkk)
          | (go_simp; go_at_call 65; refine (HCO.out _ _ _ _ (HKK.out.kept (Nat.le_of_lt (lt_of_block HKK.out.l_)) (by first | exact Below.refl _ _ | exact bal2 (Below.refl _ _) _)) (Nat.le_trans (Nat.le_of_lt (lt_of_block HKK.out.l_)) (by first | exact Nat.le_refl _ | simp))).mono ?_; rintro e w5 ⟨v5, rfl, ho5, hb5⟩; obtain ⟨A5, c5, rfl⟩ := own_slice ho5; have HX5 := hid (show Below w3.heap.size w3 w5 from bnx (by first | exact HX5.out | exact bal2 HX5.out _ | exact HX4.out | exact bal2 HX4.out _ | exact (Below.refl _ _).drew | exact bal2 (Below.refl _ _).drew _ | exact (bal2 (Below.refl _ _) _).drew | exact Below.refl _ _ | exact bal2 (Below.refl _ _) _) hb5); have hk5 := HK2.out w5 (bnx3 HB3.out HX5.out); have HO5 := hid (own_base ho5 (show w3.heap.size ≤ _ from (by first | exact HX4.out.size | (have := HX4.out.size; simp; omega)))); (first | (have ar := hid (Ar.kept ar.out hb5); skip) | (have ar := hid (Ar.kept (Ar.new (w := w4) (b := w4.heap.size) (v := .int .i64 n) (T := 3) rfl) hb5); skip) | skip); (first | (have arc := ar.out.cell) | skip); clear ho5 hb5)
          | (refine step_one rfl (.tmp 35) (.tmp 39) Try.underlying38 Try.infoInt rfl (by decide) rfl w3.heap.size _ ng (ints (nz (kidsOf l (-1)))) rfl (HO5.out.alloc _) ⟨w5.heap.size, 0, none⟩ (.int .i64 n) (by simp [Act.eval]) (cell_new1 _ _ _) rfl (by omega) (by have := HX5.out.size; simp; omega) ?_; intro v6 w6 ho6 hg6; have HB6 := hid (below_app (bal2 HX5.out _) (HO5.out.alloc _) hg6 (Nat.le_refl _) (by have := HX5.out.size; simp; omega)); obtain ⟨A6, c6, rfl⟩ := own_slice ho6; have HO6 := hid ho6; clear ho6 hg6)
          | (refine step_one rfl (.tmp 35) (.tmp 39) Try.underlying38 Try.infoInt rfl (by decide) rfl w3.heap.size _ ng (ints (nz (kidsOf l (-1)))) rfl (HO5.out) ⟨w4.heap.size, 0, none⟩ (.int .i64 n) (by simp [Act.eval]) arc rfl (by omega) (by have := HX5.out.size; simp; omega) ?_; intro v6 w6 ho6 hg6; have HB6 := hid (below_app (HX5.out) (HO5.out) hg6 (Nat.le_refl _) (by have := HX5.out.size; simp; omega)); obtain ⟨A6, c6, rfl⟩ := own_slice ho6; have HO6 := hid ho6; clear ho6 hg6)
          | (refine step_one rfl (.tmp 35) (.tmp 39) Try.underlying38 Try.infoInt rfl (by decide) rfl w3.heap.size _ ng (ints (nz (kidsOf l (-1)))) rfl (HO5.out) ⟨w3.heap.size, 0, none⟩ (.int .i64 n) (by simp [Act.eval]) arc rfl (by omega) (by have := HX5.out.size; simp; omega) ?_; intro v6 w6 ho6 hg6; have HB6 := hid (below_app (HX5.out) (HO5.out) hg6 (Nat.le_refl _) (by have := HX5.out.size; simp; omega)); obtain ⟨A6, c6, rfl⟩ := own_slice ho6; have HO6 := hid ho6; clear ho6 hg6))
        all_goals
          go_wp2_with fail
          go_meet
          exact ⟨_, _, rfl, HO6, HB6⟩
      obtain ⟨A7, c7, rfl, hO7, hB7⟩ := hcut
      clear q2 q2a
      obtain ⟨w4, rfl⟩ : ∃ W, W = wc := ⟨_, rfl⟩
      have hB4 := bnx3 HB3.out hB7.out
      have p4 := HK4.out w4 hB4; have z5 := HZ4.out w4 hB4
      by_cases hno : fr < 0 ∨ t2 < fr ∨ (ng : Int) < t2
      · obtain ⟨x1, rfl⟩ := M3.out.1 hno
        have X1 := hid x1; have HB4 := hid hB4
        have hcs : decide (fr < 0) = true ∨ (decide (fr < 0) = false ∧ decide (t2 < fr) = true) ∨ (decide (fr < 0) = false ∧ decide (t2 < fr) = false ∧ decide ((ng : Int) < t2) = true) := by simp only [decide_eq_true_eq, decide_eq_false_iff_not]; omega
        clear hno M3 x1 hB4 hO7 hB7
        rcases hcs with e1 | ⟨e1, e2⟩ | ⟨e1, e2, e3⟩
        all_goals
          go_wp2_with fail
          have hq := World.cell?_setCell_same _ _ (.slice none 0 0) p4
          exact bodyPost_ret (v := .tuple #[.agg #[.slice none 0 0], .int .i64 1]) (by simp [results, Try.results37, go_sem, hq]) rfl ⟨.slice none 0 0, rfl, by rw [X1.out]; exact World.ownsRow_nil _ _ _ _, (HW.out _ HB4.out).setCell hlt _⟩
      · have M4 := hid (M3.out.2 hno)
        obtain ⟨f, rfl⟩ : ∃ f : Nat, fr = f := ⟨fr.toNat, by omega⟩
        obtain ⟨t, rfl⟩ : ∃ t : Nat, t2 = t := ⟨t2.toNat, by omega⟩
        have hft : f ≤ t := by omega
        have htg : t ≤ ng := by omega
        have e1 : decide ((f : Int) < 0) = false := decide_eq_false (by omega)
        have e2 : decide ((t : Int) < (f : Int)) = false := decide_eq_false (by omega)
        have e3 : decide ((ng : Int) < (t : Int)) = false := decide_eq_false (by omega)
        have e4 : ¬ ((t : Int) < (f : Int)) := by omega
        have e5 : ¬ ((ng : Int) < (t : Int)) := by omega
        simp only [Int.toNat_natCast] at M4
        have hpf := posG_le (l := l) (i := f) (by rw [← HNG.out]; omega)
        have hpt := posG_le (l := l) (i := t) (by rw [← HNG.out]; omega)
        have hmo := posG_mono' (l := l) (i := f) (j := t) hft (by rw [← HNG.out]; omega)
        have hOl := spO_len (l := l) (wt := wt) (f := f) (t := t) hft (by rw [← HNG.out]; omega)
        obtain ⟨g, c8, hv7, hgb, hgl⟩ := own_some hO7.out (by omega)
        simp only [Value.slice.injEq, true_and] at hv7
        obtain ⟨rfl, rfl⟩ := hv7
        have y1 := hO7.out.cellAt f (by omega); have y2 := hO7.out.cellAt t (by omega)
        rw [HNN.out, at_get (by rw [← HNG.out]; omega)] at y1 y2
        have q2 := HK2.out w4 hB4
        have g1 : (f : Int) < (ng : Int) + 1 := by omega
        have g2 : (t : Int) < (ng : Int) + 1 := by omega
        clear hno M3 hO7 z5 p4
        rw [← HNN.out] at hpf hpt hOl
        rw [← HMM.out] at hOl
        have HOL := hid hOl
        clear hOl
        have hspo : spO l wt f t = l.take (posG l f) ++ wt ++ l.drop (posG l t) := rfl
        have HSP := hid hspo
        clear hspo
        generalize posG l f = pf at *
        generalize posG l t = pt at *
        have HB7 := hid hB7.out; have HB4 := hid hB4
        clear hB7 hB4
        go_upto_region 10 with (fail)
        go_quiet (fail)
        generalize hwd : w4.drewN _ = w5
        have hbd : Below w4.heap.size w4 w5 := by rw [← hwd]; exact below_drewN (Below.refl _ _) _
        have hB5 := bnx3 HB4.out hbd
        have HB5 := hid hB5
        have q6 := HK3.out w5 hB5
        have q6a := fun (X : Obj) => HK3.out _ (hB5.alloc hB5.size X)
        generalize hX : (if c2 = pt then A2 else Option.map (fun x => x.add (pt * 8)) A2) = X
        have hnd := fun (W : World) (h : Below w.heap.size w W) => ((HRN.out.below h).drop (k := pt) (c := c2) (by rw [← HNN.out]; exact hroom))
        rw [hX] at hnd
        have hlp : (l.take pf).length = pf := by rw [List.length_take, ← HNN.out]; exact Nat.min_eq_left hpf
        have hlq : (l.drop pt).length = n - pt := by simp; rw [← HNN.out]
        have hmt : wt.length = m := HMM.out.symm
        have hfl : flt [(l.take pf, A2, pf), (wt, A3, c3), (l.drop pt, X, c2 - pt)] 3 = spO l wt f t := by rw [HSP.out]; simp [flt]
        obtain ⟨K, hK⟩ : ∃ K, K = (spO l wt f t).length := ⟨_, rfl⟩
        have hKm : K ≤ 3000000 := by rw [hK, HOL.out]; omega
        have HCN := hid fun (W : World) (h : Below w1.heap.size w1 W) => (by
          have := concatN_any [(l.take pf, A2, pf), (wt, A3, c3), (l.drop pt, X, c2 - pt)] W.heap.size (by simp) (by show (flt _ 3).length ≤ _; rw [hfl, ← hK]; omega) (W.alloc (.cells #[.slice A2 pf pf, .slice A3 m c3, .slice X (n - pt) (c2 - pt)] 25)) (by simp)
            (fun i hi => by
              match i, hi with
              | 0, _ => rw [show (([(l.take pf, A2, pf), (wt, A3, c3), (l.drop pt, X, c2 - pt)] : List Row3)[0]) = (l.take pf, A2, pf) from rfl, hlp]; exact cell_here rfl rfl
              | 1, _ => rw [show (([(l.take pf, A2, pf), (wt, A3, c3), (l.drop pt, X, c2 - pt)] : List Row3)[1]) = (wt, A3, c3) from rfl, hmt]; exact cell_here rfl rfl
              | 2, _ => rw [show (([(l.take pf, A2, pf), (wt, A3, c3), (l.drop pt, X, c2 - pt)] : List Row3)[2]) = (l.drop pt, X, c2 - pt) from rfl, hlq]; exact cell_here rfl rfl)
            (fun i hi => by
              have hbw : Below w.heap.size w (W.alloc (.cells #[.slice A2 pf pf, .slice A3 m c3, .slice X (n - pt) (c2 - pt)] 25)) := (HW.out _ h).alloc (HW.out _ h).size _
              match i, hi with
              | 0, _ => exact ((HRN.out.below hbw).take (by rw [← HNN.out]; exact hpf)).more hbw.size
              | 1, _ => exact (HRT.out.below hbw).more hbw.size
              | 2, _ => exact (hnd _ hbw).more hbw.size)
          have e3 : ([(l.take pf, A2, pf), (wt, A3, c3), (l.drop pt, X, c2 - pt)] : List Row3).length = 3 := rfl
          rw [e3, hfl, ← hK] at this
          exact this : Calls Try.prog 72 #[.slice (some ⟨W.heap.size, 0, none⟩) 3 3] (W.alloc (.cells #[.slice A2 pf pf, .slice A3 m c3, .slice X (n - pt) (c2 - pt)] 25)) fun e w' => ∃ v, e = .returned v ∧ w'.ownsRow (W.alloc (.cells #[.slice A2 pf pf, .slice A3 m c3, .slice X (n - pt) (c2 - pt)] 25)).heap.size 78 8 v K (flatN (spO l wt f t)) ∧ Below (W.alloc (.cells #[.slice A2 pf pf, .slice A3 m c3, .slice X (n - pt) (c2 - pt)] 25)).heap.size (W.alloc (.cells #[.slice A2 pf pf, .slice A3 m c3, .slice X (n - pt) (c2 - pt)] 25)) w')
        have HKL := hid hK
        clear hwd hbd hX hnd hlp hlq hmt hfl hB5 q2 y1 y2
        have arm : True := trivial
        by_cases hK2 : 200 < K
        · have e6 : decide ((200 : Int) < (K : Int)) = true := decide_eq_true (by omega)
          obtain ⟨x1, rfl⟩ := M4.out.1 (by rw [← HKL.out]; exact hK2)
          have X1 := hid x1
          clear x1 M4 hK
          go_wp2_with (first | (go_at_call 72; refine (HCN.out w5 HB5.out).mono ?_; rintro e w6 ⟨v6, rfl, ho6, hb6⟩; obtain ⟨A6, c6, rfl⟩ := own_slice ho6; have HB6 := hid (bnx3 HB5.out (bnx (bal2 (Below.refl _ _) _) hb6)); have p4 := HK4.out w6 HB6.out; have z5 := HZ4.out w6 HB6.out; clear ho6 hb6 q6 q6a))
          have hq := World.cell?_setCell_same _ _ (.slice none 0 0) p4
          exact bodyPost_ret (v := .tuple #[.agg #[.slice none 0 0], .int .i64 2]) (by simp [results, Try.results37, go_sem, hq]) rfl ⟨.slice none 0 0, rfl, by rw [X1.out]; exact World.ownsRow_nil _ _ _ _, (HW.out _ HB6.out).setCell hlt _⟩
        · have e6 : decide ((200 : Int) < (K : Int)) = false := decide_eq_false (by omega)
          obtain ⟨x1, rfl⟩ := M4.out.2 (by rw [← HKL.out]; exact hK2)
          have X1 := hid x1
          clear x1 M4 hK
          go_wp2_with (first | (go_at_call 72; refine (HCN.out w5 HB5.out).mono ?_; rintro e w6 ⟨v6, rfl, ho6, hb6⟩; obtain ⟨A6, c6, rfl⟩ := own_slice ho6; have HB6 := hid (bnx3 HB5.out (bnx (bal2 (Below.refl _ _) _) hb6)); have HO6 := hid ho6; have p4 := HK4.out w6 HB6.out; have z5 := HZ4.out w6 HB6.out; clear ho6 hb6 q6 q6a))
          have hq := World.cell?_setCell_same _ _ (.slice A6 K c6) p4
          have h9 := HO6.out
          have h8 := (HW.out _ HB5.out).size
          have h7 := HB5.out.size
          have hne : (Value.slice A6 K c6).ownBlock ≠ some B3 := fun he => by have := (h9.lt _ he).1; simp at this; omega
          have h10 := own_base (ownsRow_setCell_other h9 (a := (⟨B3, 0, none⟩ : Addr)) hne (.slice A6 K c6)) (show w.heap.size ≤ _ by simp; omega)
          exact bodyPost_ret (v := .tuple #[.agg #[.slice A6 K c6], .int .i64 0]) (by simp [results, Try.results37, go_sem, hq]) rfl ⟨.slice A6 K c6, rfl, by rw [X1.out, ← HKL.out]; exact h10, (HW.out _ HB6.out).setCell hlt _⟩
    · have f1 : (CB != 0) = true := by simp [hCB]
      obtain ⟨x1, rfl⟩ := M2.out hCB
      have X1 := hid x1
      clear x1 M2 M3
      go_wp2_with (first | (go_at_call 19; refine (HCB.out _ (HW.out _ HB2.out)).mono ?_; rintro e w3 ⟨rfl, hb3'⟩; have HB3 := hid (HB2.out.trans (hb3'.mono HB2.out.size)); have p4 := HK4.out w3 HB3.out; have p5 := HZ4.out w3 HB3.out; clear hb3' HCB q0 q1 q3))
      have hq := World.cell?_setCell_same _ _ (.slice none 0 0) p4
      exact bodyPost_ret (v := .tuple #[.agg #[.slice none 0 0], .int .i64 E]) (by simp [results, Try.results37, go_sem, hq]) rfl ⟨.slice none 0 0, rfl, by rw [X1.out]; exact World.ownsRow_nil _ _ _ _, (HW.out _ HB3.out).setCell hlt _⟩
  · have f0 : (CA != 0) = true := by simp [hCA]
    obtain ⟨x1, rfl⟩ := M1.out hCA
    have X1 := hid x1
    clear x1 M1 M2 M3
    go_wp2_with (first | (go_at_call 19; refine HCA.out.mono ?_; rintro e w2 ⟨rfl, hb2'⟩; have p4 := HK4.out w2 hb2'; have p5 := HZ4.out w2 hb2'; have HB2 := hid hb2'; clear hb2' HCA k0 k1 k2 k3 k4 z4))
    have hq := World.cell?_setCell_same _ _ (.slice none 0 0) p4
    exact bodyPost_ret (v := .tuple #[.agg #[.slice none 0 0], .int .i64 E]) (by simp [results, Try.results37, go_sem, hq]) rfl ⟨.slice none 0 0, rfl, by rw [X1.out]; exact World.ownsRow_nil _ _ _ _, (HW.out _ HB2.out).setCell hlt _⟩
end Go.Proofs.Ytddbnggficlcfaa
