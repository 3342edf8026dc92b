/- PLAIN LAW: a text in a mirror: its layout, its line. -/
import Derived.Test.YtimblabaeclhpaaGreatLayE
import Derived.Test.YtimblabaeclhpaaGreatOrder
import Derived.Test.YtimblabaeclhpaaGreatFlt
import Derived.Test.YtimblabaeclhpaaGreatNumL
import Derived.Test.YtimblabaeclhpaaGreatItL
import Derived.Test.YtimblabaeclhpaaGreatStdL
import Derived.Test.YtimblabaeclhpaaGreatBoxesW
import Derived.Test.YtimblabaeclhpaaGreatRead
import Derived.Test.YtimblabaeclhpaaGreatCopy
namespace Go.Proofs.YtimblabaeclhpaaGreat
theorem mirN_kind (ss : List Sg) (n : Nd) : (mirN ss n).kind = n.kind ∧ (mirN ss n).depth = n.depth ∧ (mirN ss n).sign = n.sign ∧ (mirN ss n).turn = n.turn ∧ (mirN ss n).state = n.state ∧ (mirN ss n).mn = n.mn ∧ (mirN ss n).mx = n.mx := by
  unfold mirN
  split <;> exact ⟨rfl, rfl, rfl, rfl, rfl, rfl, rfl⟩
theorem ndE_mir {ss : List Sg} {m : Int} {n : Nd} (h : ndE ss.length (evenOf ss n.sign) m n = 0) : ndE ss.length (evenOf ss (mirN ss n).sign) m (mirN ss n) = 0 := by
  by_cases hc : n.kind = 1 ∧ evenOf ss n.sign = false
  · have e : mirN ss n = { n with mir := !n.mir } := if_pos hc
    rw [e]
    obtain ⟨h1, h2⟩ := hc
    unfold ndE at h ⊢
    simp only [h1, h2, if_true, Bool.false_eq_true, and_false, or_false] at h ⊢
    exact h
  · have e : mirN ss n = n := if_neg hc
    rw [e]
    exact h
section
variable (ss : List Sg) (l : List Nd)
theorem mir_dep : dep (l.map (mirN ss)) = dep l := by
  funext i
  unfold dep
  rw [List.getElem?_map]
  cases l[i]? with
  | none => rfl
  | some n => exact (mirN_kind ss n).2.1
theorem mir_kd : kd (l.map (mirN ss)) = kd l := by
  funext i
  unfold kd
  rw [List.getElem?_map]
  cases l[i]? with
  | none => rfl
  | some n => exact (mirN_kind ss n).1
theorem mir_nd (i : Nat) : nd (l.map (mirN ss)) i = mirN ss (nd l i) := by
  unfold nd
  rw [List.getD_eq_getElem?_getD, List.getD_eq_getElem?_getD, List.getElem?_map]
  cases l[i]? with
  | none => rfl
  | some n => rfl
theorem mir_kids (i : Int) : kidsOf (l.map (mirN ss)) i = kidsOf l i := kidsOf_dep (List.length_map ..) (mir_dep ss l) i
theorem mir_inH : ∀ k, inH (l.map (mirN ss)) k = inH l k
  | 0 => rfl
  | k + 1 => by rw [inH, inH, mir_dep, mir_kd, mir_inH k]
theorem mir_low (x : Bool) (n : Nd) : lowN x (mirN ss n) = mirN ss (lowN x n) := by
  by_cases h : n.kind = 1 ∧ evenOf ss n.sign = false
  · have h2 : (lowN x n).kind = 1 ∧ evenOf ss (lowN x n).sign = false := ⟨by show (if n.kind = 7 then 2 else n.kind) = 1; rw [if_neg (by omega)]; exact h.1, h.2⟩
    unfold mirN
    rw [if_pos h, if_pos h2]
    rfl
  · have h2 : ¬ ((lowN x n).kind = 1 ∧ evenOf ss (lowN x n).sign = false) := fun h3 => h ⟨by have h4 : (if n.kind = 7 then 2 else n.kind) = 1 := h3.1; split at h4 <;> omega, h3.2⟩
    unfold mirN
    rw [if_neg h, if_neg h2]
theorem mir_pl : ∀ k, plR (l.map (mirN ss)) k = (plR l k).map (mirN ss)
  | 0 => rfl
  | k + 1 => by
    rw [plR, plR, mir_dep, mir_kd, mir_inH, mir_nd, mir_pl k]
    split
    · rfl
    · rw [List.map_append, List.map_cons, List.map_nil, mir_low]
theorem mir_leafSz (n : Nd) : leafSz ss (mirN ss n) = leafSz ss n := by
  obtain ⟨h1, h2, h3, h4, h5, h6, h7⟩ := mirN_kind ss n
  unfold leafSz
  rw [h1, h3, h4, h7]
theorem mir_acr (rows : Bool) (n : Nd) : acr rows (mirN ss n) = acr rows n := by unfold acr; rw [(mirN_kind ss n).1]
theorem mir_spc (n : Nd) : spcOf (mirN ss n) = spcOf n := by unfold spcOf; rw [(mirN_kind ss n).1, (mirN_kind ss n).2.1]
theorem mir_brd (n : Nd) : brd (mirN ss n) = brd n := by unfold brd; rw [(mirN_kind ss n).1]
theorem mir_inZ (rows : Bool) (z : Nat → Int × Int) (i : Nat) : inZ rows (l.map (mirN ss)) z i = inZ rows l z i := by unfold inZ; rw [mir_nd, mir_acr, mir_spc, mir_kids]
theorem mir_sz (rows : Bool) : ∀ f, szN ss (l.map (mirN ss)) rows f = szN ss l rows f
  | 0 => rfl
  | f + 1 => by
    funext i
    rw [szN, szN, mir_kd, mir_nd, mir_nd, mir_leafSz, mir_leafSz, mir_inZ, mir_sz rows f]
theorem mir_spots (rows : Bool) : ∀ f, spotsN ss (l.map (mirN ss)) rows f = spotsN ss l rows f
  | 0 => rfl
  | f + 1 => by
    funext i x y
    rw [spotsN, spotsN, mir_kd, mir_nd, mir_sz, mir_sz, mir_acr, mir_spc, mir_brd, mir_inZ, mir_kids, mir_spots rows f]
/-- A box in the mirror. -/
def mirB (b : Bxv) : Bxv := ⟨mirN ss b.nd, (b.x.add b.w).neg, b.y, b.w, b.h⟩
theorem mir_box (s : Fr) (c : Int × Int) (cr : Int) (n : Nd) (p : Spot) : boxOf 2 true s c cr (mirN ss n) p = mirB ss (boxOf 1 true s c cr n p) := rfl
theorem mir_scl (rows : Bool) (n : Nd) (z : Int × Int) : scl rows (mirN ss n) z = scl rows n z := by unfold scl; rw [(mirN_kind ss n).1]
theorem mir_gZ (rows : Bool) (i : Nat) : gZ ss (l.map (mirN ss)) rows i = gZ ss l rows i := by unfold gZ; rw [mir_sz, List.length_map]
theorem mir_gS (rows : Bool) (i : Nat) : gS ss (l.map (mirN ss)) rows i = gS ss l rows i := by unfold gS; rw [mir_nd, mir_scl, mir_gZ]
theorem mir_gL (rows : Bool) : gL ss (l.map (mirN ss)) rows = gL ss l rows := by
  funext i
  unfold gL gAl
  rw [mir_gS, mir_gZ]
theorem mir_grp (i : Nat) (c : Int × Int) : grpBx ss (l.map (mirN ss)) true 2 i c = (grpBx ss l true 1 i c).map (mirB ss) := by
  unfold grpBx gCr
  rw [mir_spots, mir_gS, mir_gZ, List.length_map, List.map_map]
  refine List.map_congr_left fun p _ => ?_
  rw [mir_nd]
  rfl
theorem mir_zip (ks : List Nat) : ∀ cs : List (Int × Int), (List.zipWith (grpBx ss (l.map (mirN ss)) true 2) ks cs).flatten = ((List.zipWith (grpBx ss l true 1) ks cs).flatten).map (mirB ss) := by
  induction ks with
  | nil => intro cs; simp
  | cons k ks ih =>
    intro cs
    cases cs with
    | nil => simp
    | cons c cs => rw [List.zipWith_cons_cons, List.zipWith_cons_cons, List.flatten_cons, List.flatten_cons, List.map_append, mir_grp, ih cs]
theorem mir_bx (len : Int) : layBx ss (l.map (mirN ss)) true 2 len = (layBx ss l true 1 len).map (mirB ss) := by
  unfold layBx layS
  rw [mir_kids, mir_gL, mir_zip]
theorem mir_leaves : leaves (l.map (mirN ss)) = leaves l := by
  have e : ∀ f, lvs (l.map (mirN ss)) f = lvs l f := by
    intro f
    induction f with
    | zero => rfl
    | succ f ih =>
      funext i
      rw [lvs, lvs]
      unfold ordK
      rw [mir_kd, mir_kids, ih]
  unfold leaves
  rw [e, List.length_map]
theorem mir_marks : marks (l.map (mirN ss)) = marks l := by
  unfold marks
  rw [mir_leaves]
  refine List.map_congr_left fun i _ => ?_
  unfold mkAt
  rw [List.getElem?_map]
  cases l[i]? with
  | none => rfl
  | some n =>
    show mkOf (mirN ss n) = mkOf n
    obtain ⟨h1, h2, h3, h4, h5, h6, h7⟩ := mirN_kind ss n
    unfold mkOf
    rw [h1, h3, h5, h6, h7]
end
theorem Val.mirror {ss : List Sg} {l : List Nd} (h : Val ss l) : Val ss (l.map (mirN ss)) := by
  have hl : (l.map (mirN ss)).length = l.length := List.length_map ..
  have hd := mir_dep ss l
  have hk := mir_kd ss l
  refine ⟨fun i hi => ?_, fun i hi => ?_⟩
  · rw [hl] at hi
    have h1 := h.1 i hi
    unfold ownE at h1 ⊢
    have e2 : mostOf (l.map (mirN ss)) i = mostOf l i := by unfold mostOf; rw [hd, hk]
    rw [mir_nd, e2]
    exact ndE_mir h1
  · rw [hl] at hi
    have h2 := h.2 i hi
    unfold famRs famR at h2 ⊢
    rw [kidsOf_dep hl hd, kidsOf_dep hl hd, parOf_dep hd, hd, hk]
    exact h2
theorem of_val {P : Int} {ss : List Sg} {l : List Nd} (h : listE P ss = 0) (h2 : l.length ≤ 200) (h3 : Val ss l) : chkE P ss l = 0 := chkE_ok h (by omega) (firstE_of h3.1) h3.2
/-- The mirrored text is valid. -/
theorem mir_ok {P : Int} {ss : List Sg} {l : List Nd} (h : chkE P ss l = 0) : chkE P ss (l.map (mirN ss)) = 0 := by
  obtain ⟨h1, h2, h3⟩ := val_of h
  exact of_val h1 (by rw [List.length_map]; exact h2) h3.mirror
/-- The layouts. -/
theorem mir_lay {P wd : Int} {ss : List Sg} {l : List Nd} (h : chkE P ss l = 0) : begE P ss (l.map (mirN ss)) 2 wd = begE P ss l 1 wd ∧ layR P ss (l.map (mirN ss)) 2 wd = (layR P ss l 1 wd).map (mirB ss) := by
  have e : begE P ss (l.map (mirN ss)) 2 wd = begE P ss l 1 wd := by
    unfold begE pageE
    rw [h, mir_ok h]
    simp
  refine ⟨e, ?_⟩
  unfold layR
  rw [e, List.length_map, mir_pl]
  split
  · exact mir_bx ss (plR l l.length) wd
  · rfl
theorem zip_mem {α β γ : Type} {g : α → β → List γ} {b : γ} : ∀ (xs : List α) (ys : List β), b ∈ (List.zipWith g xs ys).flatten → ∃ x ∈ xs, ∃ y, b ∈ g x y
  | [], ys, h => by simp at h
  | x :: xs, [], h => by simp at h
  | x :: xs, y :: ys, h => by
    rw [List.zipWith_cons_cons, List.flatten_cons, List.mem_append] at h
    rcases h with h | h
    · exact ⟨x, by simp, y, h⟩
    · obtain ⟨z, hz, u, hu⟩ := zip_mem xs ys h
      exact ⟨z, by simp [hz], u, hu⟩
/-- The signs of boxes are signs of the list. -/
theorem lay_sign {P d wd : Int} {ss : List Sg} {l : List Nd} {b : Bxv} (h : b ∈ layR P ss l d wd) (hk : b.nd.kind = 1) : 0 ≤ b.nd.sign ∧ b.nd.sign < ss.length := by
  unfold layR at h
  split at h
  · rename_i he
    have hp := pln_of (beg_ok he).1
    generalize plR l l.length = m at h hp
    unfold layBx at h
    obtain ⟨i, hi, c, hb⟩ := zip_mem _ _ h
    have hil := grp_mem hi
    unfold grpBx at hb
    obtain ⟨p, hp1, rfl⟩ := List.mem_map.1 hb
    have hn := spots_nodes (rows := decide (d ≤ 2)) hp m.length i hil (by omega) 0 0
    have hm : p.node ∈ (spotsN ss m (decide (d ≤ 2)) m.length i 0 0).map Spot.node := List.mem_map.2 ⟨p, hp1, rfl⟩
    rw [hn] at hm
    have hm2 := (List.mem_filter.1 hm).1
    have hle := endOf_le (l := m) (i := i) hil
    have hlt : p.node < m.length := by
      have := List.mem_range'.1 hm2
      obtain ⟨j, hj, e⟩ := this
      omega
    have ho := (own_leaf hp.val hlt).1 hk
    exact ⟨ho.1, ho.2.1⟩
  · cases h
/-- Mirrors differ if the sign is not even. -/
theorem mir_bool (ss : List Sg) (n : Nd) : (n.mir == (mirN ss n).mir) = (decide (n.kind ≠ 1) || evenOf ss n.sign) := by
  unfold mirN
  by_cases h : n.kind = 1
  · cases he : evenOf ss n.sign with
    | false => rw [if_pos ⟨h, rfl⟩]; simp [h]
    | true => rw [if_neg (by simp)]; simp
  · rw [if_neg (fun h2 => h h2.1)]; simp [h]
end Go.Proofs.YtimblabaeclhpaaGreat

/- A load of a row in a quiet region; boxes that are only read. -/
namespace Go.Proofs.YtimblabaeclhpaaGreat
open Go.RowKit
theorem flatB_at : ∀ (L : List Bxv) (k j : Nat) (hk : k < L.length), j < 15 → (flatB L)[k * 15 + j]? = (bxC L[k])[j]?
  | g :: L, 0, j, _, hj => by
    unfold flatB
    rw [List.flatMap_cons, List.getElem?_append_left (by unfold bxC; simp; omega)]
    simp
  | g :: L, k + 1, j, hk, hj => by
    have ih := flatB_at L k j (by simpa using hk) hj
    unfold flatB at ih ⊢
    rw [List.flatMap_cons, List.getElem?_append_right (by unfold bxC; simp; omega), List.getElem_cons_succ, ← ih]
    congr 1
    unfold bxC
    simp
    omega
/-- Boxes that are only read. -/
def Bxr (w : World) (B : Nat) (A : Option Addr) (L : List Bxv) : Prop := Reads w B 15 A L.length (flatB L)
theorem Bxr.at {w : World} {B : Nat} {A : Option Addr} {L : List Bxv} (h : Bxr w B A L) (hl : 0 < L.length) : ∃ b o, A = some ⟨b, o, none⟩ ∧ b < B ∧ ∀ j (hj : j < L.length), w.rangeAt b (o + j * 15) (bxC L[j]) := by
  have hfl : (flatB L).length = L.length * 15 := by
    clear h hl
    induction L with
    | nil => rfl
    | cons x L ih => unfold flatB at ih ⊢; rw [List.flatMap_cons, List.length_append, ih, List.length_cons]; unfold bxC; simp; omega
  obtain ⟨b, o, e, hb, hc⟩ := Reads.at0 h hl (by rw [hfl]; omega)
  refine ⟨b, o, e, hb, fun j hj k u hu => ?_⟩
  have hk : k < 15 := by
    have := (List.getElem?_eq_some_iff.1 hu).1
    unfold bxC at this
    simpa using this
  rw [Nat.add_assoc]
  exact hc (j * 15 + k) u ((flatB_at L j k hj hk).trans hu)
end Go.Proofs.YtimblabaeclhpaaGreat

/- WALK: groups.Line; what the law of the mirror needs besides. -/
namespace Go.Proofs.YtimblabaeclhpaaGreat
open Go.RowKit Go.Shelf
theorem good_hon {P : Int} {ss : List Sg} {l : List Nd} (h : chkE P ss l = 0) : HonOk l := fun i hi h7 => by
  obtain ⟨_, _, h3, h4⟩ := chkE_zero h
  have := (h4 i hi).1
  rw [h7, if_neg (by decide), if_neg (by decide), if_neg (by decide)] at this
  exact this.1
theorem firstE_congr {f g : Nat → Int} : ∀ {n : Nat}, (∀ k, k < n → f k = g k) → firstE f n = firstE g n
  | 0, _ => rfl
  | n + 1, h => by rw [firstE, firstE, firstE_congr fun k hk => h k (by omega), h n (by omega)]
/-- A function that answers marks and an error. -/
def MksPost (E : Int) (L : List Mk) (w : World) (e : Ending) (w' : World) : Prop := ∃ v, e = .returned (.tuple #[v, .int .i64 E]) ∧ w'.ownsRow w.heap.size 52 4 v L.length (flatM L) ∧ Below w.heap.size w w'
noncomputable def linL (P : Int) (ss : List Sg) (l : List Nd) : List Mk := if chkE P ss l = 0 then marks l else []
theorem linL_bad {P : Int} {ss : List Sg} {l : List Nd} (h : chkE P ss l ≠ 0) : linL P ss l = [] := if_neg h
theorem linL_ok {P : Int} {ss : List Sg} {l : List Nd} (h : chkE P ss l = 0) : linL P ss l = marks l := if_pos h
set_option maxRecDepth 100000 in
set_option maxHeartbeats 4000000 in
theorem lineE_any (P : Int) (ss : List Sg) (l : List Nd) (hN : ss.length ≤ 1000000) (hv : ∀ s ∈ ss, s.vals.length ≤ 1000000 ∧ s.vals.length ≤ s.vc) (hn : l.length ≤ 1000000) (A A2 : Option Addr) (c c2 : Nat) (w : World) (rs : Sgs w w.heap.size A ss) (rn : Nds w w.heap.size A2 l) :
    Calls Tryz.prog 10 #[.agg #[.int .i64 P, .slice A ss.length c], .agg #[.slice A2 l.length c2]] w (MksPost (chkE P ss l) (linL P ss l) w) := by
  obtain ⟨w1, hw1⟩ : ∃ w1, w1 = (w.alloc (.cells #[.int .i64 P, .slice A ss.length c] 24)).alloc (.cells #[.slice A2 l.length c2] 30) := ⟨_, rfl⟩
  have hb1 : Below w.heap.size w w1 := by rw [hw1]; exact ((Below.refl _ _).alloc (Nat.le_refl _) _).alloc (by simp) _
  have hz1 : w1.heap.size = w.heap.size + 2 := by rw [hw1]; simp
  have c0 : w1.cell? ⟨w.heap.size, 0, none⟩ = some (.int .i64 P) := by rw [hw1]; exact cell_old (cell_here rfl rfl)
  have c1 : w1.cell? ⟨w.heap.size, 1, none⟩ = some (.slice A ss.length c) := by rw [hw1]; exact cell_old (cell_here rfl rfl)
  have c3 : w1.cell? ⟨w.heap.size + 1, 0, none⟩ = some (.slice A2 l.length c2) := by rw [hw1]; exact cell_here (by simp) rfl
  have HCK := hid (check_any P ss l hN hv hn A A2 c c2 w1 ((rs.below hb1).more (by omega)) ((rn.below hb1).more (by omega)))
  have HLI := hid fun (h : chkE P ss l = 0) (W : World) (hb : Below w.heap.size w W) => line_any l hn (good_hon h) A2 c2 W.heap.size W (Nat.le_refl _) ((rn.below hb).more hb.size)
  have m1 := linL_bad (P := P) (ss := ss) (l := l); have m2 := linL_ok (P := P) (ss := ss) (l := l)
  generalize linL P ss l = L at m1 m2 ⊢
  generalize chkE P ss l = CE at HCK HLI m1 m2
  have M1 := hid m1; have M2 := hid m2
  clear m1 m2
  generalize ss.length = N at HCK c1 hw1 ⊢
  generalize l.length = n at HCK HLI c3 hw1 ⊢
  have HW1 := hid hw1; have HB1 := hid hb1
  have hzz : w.heap.size + 1 < w1.heap.size := by omega
  have HC3 := hid fun (wr : World) (h : Below w1.heap.size w1 wr) => (h.cell (p := ⟨w.heap.size + 1, 0, none⟩) hzz).trans c3
  have HW : Hid (∀ wr, Below w1.heap.size w1 wr → Below w.heap.size w wr) := fun wr h => hb1.trans (h.mono (by omega))
  clear hw1 hb1 hz1 rs rn hv hN
  go_enter Tryz.func10, Tryz.ntmps10
  go_upto_region 1 with (fail)
  rw [← HW1.out]
  clear HW1
  obtain ⟨B0, hB0⟩ : ∃ B0, B0 = w.heap.size := ⟨_, rfl⟩
  obtain ⟨B1, hB1⟩ : ∃ B1, B1 = B0 + 1 := ⟨_, rfl⟩
  rw [← hB0, ← hB1] at c3 HC3 hzz
  rw [← hB0] at c0 c1 ⊢
  rw [← hB1]
  clear hB0 hB1
  by_cases hCE : CE = 0
  · have f0 : (CE != 0) = false := by simp [hCE]
    have x2 := M2.out hCE
    replace HLI := hid (HLI.out hCE)
    have X2 := hid x2
    clear M1 M2 x2
    subst hCE
    go_wp2_with (first | (go_at_call 17; refine HCK.out.mono ?_; rintro e w2 ⟨rfl, hb2⟩; have p2 := HC3.out w2 hb2; have HC2 := hid (HLI.out w2 (HW.out _ hb2)); have HB2 := hid hb2; clear hb2 HCK c0 c1 c3) | (go_at_call 21; refine HC2.out.mono ?_; rintro e w5 ⟨v5, rfl, ho5, hb5⟩; have HO5 := hid (own_base ho5 (HW.out _ HB2.out).size); have HB5 := hid (HW.out _ (HB2.out.trans (hb5.mono HB2.out.size))); clear ho5 hb5))
    go_ret2
    exact ⟨_, rfl, by rw [X2.out]; exact HO5.out, HB5.out⟩
  · have f0 : (CE != 0) = true := by simp [hCE]
    have x2 := M1.out hCE
    have X2 := hid x2
    clear x2
    clear M1 M2 hCE
    go_wp2_with (first | (go_at_call 17; refine HCK.out.mono ?_; rintro e w2 ⟨rfl, hb2⟩; have HB2 := hid hb2; clear hb2 HCK c0 c1 c3))
    go_ret2
    exact ⟨.slice none 0 0, rfl, by rw [X2.out]; exact World.ownsRow_nil _ _ _ _, HW.out _ HB2.out⟩
theorem sg_core {ss ss' : List Sg} (h : ss'.map Sg.core = ss.map Sg.core) (i : Nat) : (sg ss' i).core = (sg ss i).core := by
  have e : ∀ l : List Sg, (sg l i).core = (l.map Sg.core).getD i (default : Sg).core := fun l => by
    unfold sg
    rw [List.getD_eq_getElem?_getD, List.getD_eq_getElem?_getD, List.getElem?_map]
    cases l[i]? <;> rfl
  rw [e, e, h]
theorem core_eq {s t : Sg} (h : s.core = t.core) : s.code = t.code ∧ s.wide = t.wide ∧ s.high = t.high ∧ s.even = t.even ∧ s.vals = t.vals := by
  obtain ⟨s1, s2, s3, s4, s5, s6, s7⟩ := s
  obtain ⟨t1, t2, t3, t4, t5, t6, t7⟩ := t
  simp only [Sg.core, Sg.mk.injEq, and_true] at h
  exact h
theorem sgE_core {P : Int} {s t : Sg} (h : s.core = t.core) : sgE P s = sgE P t := by
  obtain ⟨_, h2, h3, _, h5⟩ := core_eq h
  unfold sgE
  rw [h2, h3, h5]
theorem sameC_core {ss ss' : List Sg} (h : ss'.map Sg.core = ss.map Sg.core) (t : ByteArray) : sameC ss' t = sameC ss t := by
  funext j
  unfold sameC
  rw [(core_eq (sg_core h j)).1]
theorem sgnE_core {P : Int} {ss ss' : List Sg} (h : ss'.map Sg.core = ss.map Sg.core) (i : Nat) : sgnE P ss' i = sgnE P ss i := by
  unfold sgnE seenB
  rw [sameC_core h, (core_eq (sg_core h i)).1, sgE_core (sg_core h i)]
theorem core_len {ss ss' : List Sg} (h : ss'.map Sg.core = ss.map Sg.core) : ss'.length = ss.length := by
  have := congrArg List.length h
  simpa using this
theorem listE_core {P : Int} {ss ss' : List Sg} (h : ss'.map Sg.core = ss.map Sg.core) : listE P ss' = listE P ss := by
  unfold listE
  rw [core_len h, firstE_congr fun k _ => sgnE_core h k]
theorem evenOf_core {ss ss' : List Sg} (h : ss'.map Sg.core = ss.map Sg.core) (s : Int) : evenOf ss' s = evenOf ss s := (core_eq (sg_core h s.toNat)).2.2.2.1
theorem ownE_core {ss ss' : List Sg} (h : ss'.map Sg.core = ss.map Sg.core) (l : List Nd) (i : Nat) : ownE ss' l i = ownE ss l i := by
  unfold ownE
  rw [core_len h, evenOf_core h]
theorem chkE_core {P : Int} {ss ss' : List Sg} (h : ss'.map Sg.core = ss.map Sg.core) (l : List Nd) : chkE P ss' l = chkE P ss l := by
  unfold chkE
  rw [listE_core h, firstE_congr fun k _ => ownE_core h l k]
theorem vals_core {ss ss' : List Sg} (h : ss'.map Sg.core = ss.map Sg.core) {n : Nat} (hv : ∀ s ∈ ss, s.vals.length ≤ n) : ∀ s ∈ ss', s.vals.length ≤ n := fun s hs => by
  have h1 : s.core ∈ ss.map Sg.core := by rw [← h]; exact List.mem_map_of_mem hs
  obtain ⟨t, ht, e⟩ := List.mem_map.1 h1
  have h2 := (core_eq e).2.2.2.2
  rw [← h2]
  exact hv t ht
theorem bcell {W w1 : World} (hb : Below W.heap.size W w1) : (∀ b o, b < W.heap.size → w1.cell? ⟨b, o, none⟩ = W.cell? ⟨b, o, none⟩) ∧ (∀ b o, b < W.heap.size → w1.frozen? ⟨b, o, none⟩ = W.frozen? ⟨b, o, none⟩) :=
  ⟨fun b o h => hb.cell (p := ⟨b, o, none⟩) h, fun b o h => hb.frozen (p := ⟨b, o, none⟩) h⟩
theorem rdn {w w' : World} {size n : Nat} {A : Option Addr} {xs : List Value} (h : Reads w w.heap.size size A n xs) (hb : Below w.heap.size w w') : Reads w' w'.heap.size size A n xs := (Reads.below h hb).more hb.size
theorem bnext {w1 w w' : World} (h : Below w1.heap.size w1 w) (hb : Below w.heap.size w w') : Below w1.heap.size w1 w' := h.trans (hb.mono h.size)
theorem range_below {w w' : World} {B b o : Nat} {cs : List Value} (h : w.rangeAt b o cs) (hb : Below B w w') (hB : b < B) : w'.rangeAt b o cs := fun j v hv => (hb.cell (p := ⟨b, o + j, none⟩) hB).trans (h j v hv)
theorem LCopy.sgs {ss ss' : List Sg} {B : Nat} {A' : Option Addr} {c' : Nat} {w' : World} (h : LCopy ss ss' B A' c' w') : Sgs w' w'.heap.size A' ss' := ⟨Reads.of_own h.own, fun s hs => Reads.of_own (h.vals s hs)⟩
theorem own_cap' {w : World} {B n c size : Nat} {e : TypeId} {A : Option Addr} {xs : List Value} (h : w.ownsRow B e size (.slice A n c) n xs) : n ≤ c := by
  rcases h.2 with ⟨h2, h3⟩ | ⟨g, cap, cur, hv, _, _, h3, _⟩
  · omega
  · injection hv with _ _ h4
    omega
/-- A valid list's signs have at most 12 values each. -/
theorem list_vals {P : Int} {ss : List Sg} (h : listE P ss = 0) : ∀ s ∈ ss, s.vals.length ≤ 12 := by
  intro s hs
  obtain ⟨j, hj, rfl⟩ := List.getElem_of_mem hs
  have hsg := sg_at hj
  unfold listE at h
  split at h
  · omega
  · split at h
    · omega
    · have h1 := firstE_get h j hj
      unfold sgnE at h1
      split at h1
      · rw [hsg] at h1
        unfold sgE at h1
        split at h1
        · omega
        · split at h1
          · omega
          · omega
      · omega
/-- The copy of a small list, as the program's functions want it. -/
structure MCopy (P : Int) (ss ss' : List Sg) (A : Option Addr) (W : World) : Prop where
  sg : Sgs W W.heap.size A ss'
  core : ss'.map Sg.core = ss.map Sg.core
  list : listE P ss' = 0
  vals : ∀ s ∈ ss', s.vals.length ≤ 1000000 ∧ s.vals.length ≤ s.vc
  len : ss'.length ≤ 12
theorem MCopy.of {P : Int} {ss ss' : List Sg} {A : Option Addr} {c : Nat} {B : Nat} {W : World} (h : LCopy ss ss' B A c W) (hE : listE P ss = 0) (hl : ss.length ≤ 12) : MCopy P ss ss' A W :=
  ⟨h.sgs, h.core, (listE_core h.core).trans hE, fun s hs => ⟨Nat.le_trans (list_vals ((listE_core h.core).trans hE) s hs) (by decide), own_cap' (h.vals s hs)⟩, by rw [core_len h.core]; exact hl⟩
theorem MCopy.below {P : Int} {ss ss' : List Sg} {A : Option Addr} {W W' : World} (h : MCopy P ss ss' A W) (hb : Below W.heap.size W W') : MCopy P ss ss' A W' := ⟨(h.sg.below hb).more hb.size, h.core, h.list, h.vals, h.len⟩
end Go.Proofs.YtimblabaeclhpaaGreat
