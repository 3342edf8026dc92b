/- WALK: the law GroupsChecks. -/
import Derived.Test.YtddbnggficlcfaaArgs
import Derived.Test.YtddbnggficlcfaaArgs
namespace Go.Proofs.Ytddbnggficlcfaa
open Go.RowKit
theorem bal {w w' : World} (h : Below w.heap.size w w') (o : Obj) : Below w.heap.size w (w'.alloc o) := h.alloc h.size o
/-- The two copies, as they are owned. -/
structure CC (ss : List Sg) (l : List Nd) (ss' : List Sg) (A3 A4 : Option Addr) (c3 c4 : Nat) (W : World) : Prop where
  lc : LCopy ss ss' 0 A3 c3 W
  nd : W.ownsRow 0 78 8 (.slice A4 l.length c4) l.length (flatN l)
theorem Copies.below {ss : List Sg} {l : List Nd} {ss' : List Sg} {A3 A4 : Option Addr} {c3 c4 : Nat} {W W' : World} (h : Copies ss l ss' A3 A4 c3 c4 W) (hb : Below W.heap.size W W') : Copies ss l ss' A3 A4 c3 c4 W' := ⟨(h.sg.below hb).more hb.size, h.core, h.cap, rdn h.nd hb, h.room⟩
theorem own_not {w : World} {base b size n : Nat} {e T : TypeId} {cs : Array Value} {fz : Nat × Nat} {v : Value} {xs : List Value} (h : w.ownsRow base e size v n xs) (hb : w.heap[b]? = some (.cells cs T fz)) (hne : T ≠ e) : v.ownBlock ≠ some b := fun hv => by
  obtain ⟨cur, h2⟩ := own_type h hv
  rw [hb] at h2
  injection h2 with h2
  injection h2 with _ h3 _
  exact hne h3
section
variable {ss : List Sg} {l : List Nd} {ss' : List Sg} {A3 A4 : Option Addr} {c3 c4 : Nat} {W : World}
theorem CC.below {W' : World} (h : CC ss l ss' A3 A4 c3 c4 W) (hb : Below W.heap.size W W') : CC ss l ss' A3 A4 c3 c4 W' := ⟨h.lc.below hb, own_keep h.nd hb⟩
theorem CC.set {b j : Nat} {T : TypeId} {cs : Array Value} {fz : Nat × Nat} {v : Value} (h : CC ss l ss' A3 A4 c3 c4 W) (hb : W.heap[b]? = some (.cells cs T fz)) (h1 : T ≠ 76) (h2 : T ≠ 108) (h3 : T ≠ 78) : CC ss l ss' A3 A4 c3 c4 (W.setCell ⟨b, j, none⟩ v) :=
  ⟨⟨ownsRow_setCell_other h.lc.own (a := ⟨b, j, none⟩) (own_not h.lc.own hb h1) v, fun s hs => ownsRow_setCell_other (h.lc.vals s hs) (a := ⟨b, j, none⟩) (own_not (h.lc.vals s hs) hb h2) v, h.lc.core⟩, ownsRow_setCell_other h.nd (a := ⟨b, j, none⟩) (own_not h.nd hb h3) v⟩
theorem CC.copies (h : CC ss l ss' A3 A4 c3 c4 W) : Copies ss l ss' A3 A4 c3 c4 W := ⟨h.lc.sgs, h.lc.core, h.lc.cap, Reads.of_own h.nd, own_cap' h.nd⟩
end
/-- A list's box, a text's box. -/
def BL (W : World) (b : Nat) (x y : Value) : Prop := W.heap[b]? = some (.cells #[x, y] 24 (0, 0))
def BT (W : World) (b : Nat) (x : Value) : Prop := W.heap[b]? = some (.cells #[x] 27 (0, 0))
theorem BL.kept {W W' : World} {b : Nat} {x y : Value} (h : BL W b x y) (hb : Below W.heap.size W W') : BL W' b x y := (hb.block _ (lt_of_block h)).trans h
theorem BT.kept {W W' : World} {b : Nat} {x : Value} (h : BT W b x) (hb : Below W.heap.size W W') : BT W' b x := (hb.block _ (lt_of_block h)).trans h
theorem BL.new {w : World} {b : Nat} {x y : Value} (h : b = w.heap.size) : BL (w.alloc (.cells #[x, y] 24)) b x y := heap_nw h
theorem BT.new {w : World} {b : Nat} {x : Value} (h : b = w.heap.size) : BT (w.alloc (.cells #[x] 27)) b x := heap_nw h
theorem BL.old {w : World} {b : Nat} {x y : Value} {o : Obj} (h : BL w b x y) : BL (w.alloc o) b x y := heap_od h
theorem BT.old {w : World} {b : Nat} {x : Value} {o : Obj} (h : BT w b x) : BT (w.alloc o) b x := heap_od h
theorem set_two0 {W : World} {g : Nat} {T : TypeId} {x y z : Value} (h : W.heap[g]? = some (.cells #[x, y] T (0, 0))) : (W.setCell ⟨g, 0, none⟩ z).heap[g]? = some (.cells #[z, y] T (0, 0)) := by
  simp [World.setCell, h, Array.getElem?_modify] <;> rfl
theorem BLT_ne {W : World} {b b' : Nat} {x y z : Value} (h : BL W b x y) (h' : BT W b' z) : b ≠ b' := fun e => by
  subst e
  unfold BL at h; unfold BT at h'
  rw [h] at h'
  injection h' with h'
  injection h' with _ h3 _
  exact absurd h3 (by decide)
theorem BL.sets {W : World} {b : Nat} {x y u v : Value} (h : BL W b x y) : BL ((W.setCell ⟨b, 0, none⟩ u).setCell ⟨b, 1, none⟩ v) b u v := set_two (set_two0 h)
theorem BT.sets {W : World} {b : Nat} {x u : Value} (h : BT W b x) : BT (W.setCell ⟨b, 0, none⟩ u) b u := one_setCell h
theorem BL.far {W : World} {b b' j : Nat} {x y u : Value} (h : BL W b x y) (hne : b ≠ b') : BL (W.setCell ⟨b', j, none⟩ u) b x y := (Below.heap_setCell _ _ _ _ hne).trans h
theorem BT.far {W : World} {b b' j : Nat} {x u : Value} (h : BT W b x) (hne : b ≠ b') : BT (W.setCell ⟨b', j, none⟩ u) b x := (Below.heap_setCell _ _ _ _ hne).trans h
/-- What stands behind the region: both boxes, both copies. -/
structure Two (P : Int) (ss : List Sg) (l : List Nd) (ss' : List Sg) (A3 A4 : Option Addr) (c3 c4 n : Nat) (w : World) (b3 b4 : Nat) (W : World) : Prop where
  bl : BL W b3 (.int .i64 P) (.slice A3 ss'.length c3)
  bt : BT W b4 (.slice A4 n c4)
  cc : CC ss l ss' A3 A4 c3 c4 W
  bel : Below w.heap.size w W
section
variable {P : Int} {ss : List Sg} {l : List Nd} {ss' : List Sg} {A3 A4 : Option Addr} {c3 c4 n : Nat} {w W : World}
theorem two_new (h : CC ss l ss' A3 A4 c3 c4 W) (hb : Below w.heap.size w W) : Two P ss l ss' A3 A4 c3 c4 n w W.heap.size (W.heap.size + 1) ((W.alloc (.cells #[.int .i64 P, .slice A3 ss'.length c3] 24)).alloc (.cells #[.slice A4 n c4] 27)) :=
  ⟨(BL.new rfl).old, BT.new (by simp), h.below (bal (bal (Below.refl _ _) _) _), bal (bal hb _) _⟩
theorem two_new' (h : CC ss l ss' A3 A4 c3 c4 W) (hb : Below w.heap.size w W) : Two P ss l ss' A3 A4 c3 c4 n w (W.heap.size + 1) W.heap.size ((W.alloc (.cells #[.slice A4 n c4] 27)).alloc (.cells #[.int .i64 P, .slice A3 ss'.length c3] 24)) :=
  ⟨BL.new (by simp), (BT.new rfl).old, h.below (bal (bal (Below.refl _ _) _) _), bal (bal hb _) _⟩
theorem two_l {b3 : Nat} {x y : Value} (h : CC ss l ss' A3 A4 c3 c4 W) (hb : Below w.heap.size w W) (bl : BL W b3 x y) (hz : w.heap.size ≤ b3) : Two P ss l ss' A3 A4 c3 c4 n w b3 W.heap.size (((W.setCell ⟨b3, 0, none⟩ (.int .i64 P)).setCell ⟨b3, 1, none⟩ (.slice A3 ss'.length c3)).alloc (.cells #[.slice A4 n c4] 27)) :=
  ⟨bl.sets.old, BT.new (by simp), (((h.set bl (by decide) (by decide) (by decide)).set (set_two0 bl) (by decide) (by decide) (by decide)).below (bal (Below.refl _ _) _)), bal ((hb.setCell hz _).setCell hz _) _⟩
theorem two_t {b4 : Nat} {x : Value} (h : CC ss l ss' A3 A4 c3 c4 W) (hb : Below w.heap.size w W) (bt : BT W b4 x) (hz : w.heap.size ≤ b4) : Two P ss l ss' A3 A4 c3 c4 n w W.heap.size b4 ((W.setCell ⟨b4, 0, none⟩ (.slice A4 n c4)).alloc (.cells #[.int .i64 P, .slice A3 ss'.length c3] 24)) :=
  ⟨BL.new (by simp), bt.sets.old, ((h.set bt (by decide) (by decide) (by decide)).below (bal (Below.refl _ _) _)), bal (hb.setCell hz _) _⟩
theorem two_lt {b3 b4 : Nat} {x y z : Value} (h : CC ss l ss' A3 A4 c3 c4 W) (hb : Below w.heap.size w W) (bl : BL W b3 x y) (bt : BT W b4 z) (hz : w.heap.size ≤ b3) (hz' : w.heap.size ≤ b4) : Two P ss l ss' A3 A4 c3 c4 n w b3 b4 (((W.setCell ⟨b3, 0, none⟩ (.int .i64 P)).setCell ⟨b3, 1, none⟩ (.slice A3 ss'.length c3)).setCell ⟨b4, 0, none⟩ (.slice A4 n c4)) :=
  have ne := BLT_ne bl bt
  ⟨bl.sets.far ne, ((bt.far ne.symm).far ne.symm).sets, ((h.set bl (by decide) (by decide) (by decide)).set (set_two0 bl) (by decide) (by decide) (by decide)).set ((bt.far ne.symm).far ne.symm) (by decide) (by decide) (by decide), ((hb.setCell hz _).setCell hz _).setCell hz' _⟩
theorem two_tl {b3 b4 : Nat} {x y z : Value} (h : CC ss l ss' A3 A4 c3 c4 W) (hb : Below w.heap.size w W) (bl : BL W b3 x y) (bt : BT W b4 z) (hz : w.heap.size ≤ b3) (hz' : w.heap.size ≤ b4) : Two P ss l ss' A3 A4 c3 c4 n w b3 b4 (((W.setCell ⟨b4, 0, none⟩ (.slice A4 n c4)).setCell ⟨b3, 0, none⟩ (.int .i64 P)).setCell ⟨b3, 1, none⟩ (.slice A3 ss'.length c3)) :=
  have ne := BLT_ne bl bt
  ⟨(bl.far ne).sets, ((bt.sets).far ne.symm).far ne.symm, ((h.set bt (by decide) (by decide) (by decide)).set (bl.far ne) (by decide) (by decide) (by decide)).set (set_two0 (bl.far ne)) (by decide) (by decide) (by decide), ((hb.setCell hz' _).setCell hz _).setCell hz _⟩
end
set_option maxRecDepth 100000 in
set_option maxHeartbeats 8000000 in
theorem checks_law (P : Int) (ss : List Sg) (l : List Nd) (A A2 : Option Addr) (c c2 : Nat) (hl : ss.length ≤ 9223372036854775807) (hv : ∀ s ∈ ss, s.vals.length ≤ 9223372036854775807) (w : World) (rs : Sgs w w.heap.size A ss) (rn : Nds w w.heap.size A2 l) :
    Calls Try.prog 3 #[.agg #[.int .i64 P, .slice A ss.length c, .slice A2 l.length c2]] w fun e w' => e = .returned (.bool true) ∧ Below w.heap.size w w' := by
  obtain ⟨r1, hr1⟩ : ∃ x : Bool, (x = true ↔ BigP ss l) := by
    by_cases h : BigP ss l
    · exact ⟨true, iff_of_true rfl h⟩
    · exact ⟨false, iff_of_false (by simp) h⟩
  have hsm := fun h : ¬ BigP ss l => small_of h
  obtain ⟨w1, hw1⟩ : ∃ w1, w1 = w.alloc (.cells #[.int .i64 P, .slice A ss.length c, .slice A2 l.length c2] 29) := ⟨_, rfl⟩
  have hb1 : Below w.heap.size w w1 := by rw [hw1]; exact (Below.refl _ _).alloc (Nat.le_refl _) _
  have hz1 : w.heap.size < w1.heap.size := by rw [hw1]; simp
  have c0 : w1.cell? ⟨w.heap.size, 0, none⟩ = some (.int .i64 P) := by rw [hw1]; exact cell_here rfl rfl
  have c1 : w1.cell? ⟨w.heap.size, 1, none⟩ = some (.slice A ss.length c) := by rw [hw1]; exact cell_here rfl rfl
  have c3 : w1.cell? ⟨w.heap.size, 2, none⟩ = some (.slice A2 l.length c2) := by rw [hw1]; exact cell_here rfl rfl
  have HBG := hid ((bigP_any P ss l A A2 c c2 hl hv w1 ((rs.below hb1).more hb1.size)).mono fun e w' hb => hb.get hr1)
  have hF1 := fun (s1 : ss.length ≤ 30) (s2 : l.length ≤ 210) (s3 : ∀ s ∈ ss, s.vals.length ≤ 20) (ss' : List Sg) (A3 A4 : Option Addr) (c3 c4 : Nat) (W : World) (hp : Copies ss l ss' A3 A4 c3 c4 W) =>
    (by have := check_any P ss' l (by rw [hp.len]; omega) (hp.vals s3) (by omega) A3 A4 c3 c4 W hp.sg hp.nd; rw [chkE_core hp.core l] at this; exact this : Calls Try.prog 19 #[.agg #[.int .i64 P, .slice A3 ss'.length c3], .agg #[.slice A4 l.length c4]] W fun e w' => e = .returned (.int .i64 (chkE P ss l)) ∧ Below W.heap.size W w')
  have hG1 := fun (s1 : ss.length ≤ 30) (s2 : l.length ≤ 210) (s3 : ∀ s ∈ ss, s.vals.length ≤ 20) (W : World) (h : Below w1.heap.size w1 W) =>
    refCheck_any P ss l (by omega) (fun s hs => by have := s3 s hs; omega) (by omega) A A2 c c2 W ((rs.below (hb1.trans (h.mono hb1.size))).more (Nat.le_trans hb1.size h.size)) ((rn.below (hb1.trans (h.mono hb1.size))).more (Nat.le_trans hb1.size h.size))
  have hSL := fun (s1 : ss.length ≤ 30) (s3 : ∀ s ∈ ss, s.vals.length ≤ 20) (ss' : List Sg) (A3 A4 : Option Addr) (c3 c4 : Nat) (W : World) (hp : Copies ss l ss' A3 A4 c3 c4 W) (h : Below w1.heap.size w1 W) =>
    sameList_any P ss ss' hp.core A3 A c3 c (by omega) (fun s hs => by have := s3 s hs; omega) W hp.sg ((rs.below (hb1.trans (h.mono hb1.size))).more (Nat.le_trans hb1.size h.size))
  have hST := fun (s2 : l.length ≤ 210) (ss' : List Sg) (A3 A4 : Option Addr) (c3 c4 : Nat) (W : World) (hp : Copies ss l ss' A3 A4 c3 c4 W) (h : Below w1.heap.size w1 W) =>
    (sameText_any l l A4 A2 c4 c2 (by omega) (by omega) W hp.nd ((rn.below (hb1.trans (h.mono hb1.size))).more (Nat.le_trans hb1.size h.size))).mono fun e w' h => h.get (r := true) (iff_of_true rfl rfl)
  generalize chkE P ss l = E1 at hF1 hG1
  have hrs := rs; have hrn := rn
  obtain ⟨N, hN⟩ : ∃ N, N = ss.length := ⟨_, rfl⟩
  obtain ⟨n, hn⟩ : ∃ n, n = l.length := ⟨_, rfl⟩
  rw [← hN] at c1 hw1 HBG ⊢
  rw [← hn] at c3 hw1 HBG ⊢
  have HW1 := hid hw1; have HB1 := hid hb1; have HSM := hid hsm; have HR1 := hid hr1; have HNN := hid hN; have HNl := hid hn; have HRS := hid hrs; have HRN := hid hrn
  have HF1 := hid hF1; have HG1 := hid hG1; have HSL := hid hSL; have HSTT := hid hST
  clear hF1 hG1 hSL hST
  have HW : Hid (∀ wr, Below w1.heap.size w1 wr → Below w.heap.size w wr) := fun wr h => hb1.trans (h.mono (by omega))
  have HWK := hid fun (W : World) => works_any W
  have HC0 := hid fun (wr : World) (h : Below w1.heap.size w1 wr) => (h.cell (p := ⟨w.heap.size, 0, none⟩) hz1).trans c0
  have HC1 := hid fun (wr : World) (h : Below w1.heap.size w1 wr) => (h.cell (p := ⟨w.heap.size, 1, none⟩) hz1).trans c1
  have HC3 := hid fun (wr : World) (h : Below w1.heap.size w1 wr) => (h.cell (p := ⟨w.heap.size, 2, none⟩) hz1).trans c3
  clear hw1 rs rn hsm hr1 hN hn hv hl hb1 hrs hrn
  go_enter Try.func3, Try.ntmps3
  go_upto_region 1 with (fail)
  rw [← HW1.out]
  clear HW1
  obtain ⟨B0, hB0⟩ : ∃ B0, B0 = w.heap.size := ⟨_, rfl⟩
  rw [← hB0] at c0 c1 c3 hz1 HC0 HC1 HC3 ⊢
  clear hB0
  cases r1 with
  | true =>
    go_wp2_with (first | (go_at_call 15; refine HBG.out.mono ?_; rintro e w2 ⟨rfl, hb2⟩; have HB2 := hid hb2; clear hb2 c0 c1 c3) | (go_at_call 16; refine (HWK.out _).mono ?_; rintro e w3 ⟨rfl, hb3⟩; have HB3 := hid (bnext HB2.out hb3); clear hb3))
    go_ret
    exact ⟨rfl, HW.out _ HB3.out⟩
  | false =>
    obtain ⟨s1, s2, s3⟩ := HSM.out (fun h => by have := HR1.out.2 h; cases this)
    have HLI := hid fun (W : World) (h : Below w1.heap.size w1 W) => list_at (P := P) (c := c) (V := .slice A2 n c2) s1 s3 (HW.out _ (Below.refl _ _)) HRS.out W h
    have HTX := hid fun (W : World) (h : Below w1.heap.size w1 W) => text_at (P := P) (A := A) (N := N) (c := c) (c2 := c2) s2 (HW.out _ (Below.refl _ _)) HRN.out W h
    rw [← HNN.out] at HLI
    rw [← HNl.out] at HTX
    replace HF1 := hid (HF1.out s1 s2 s3); replace HG1 := hid (HG1.out s1 s2 s3); replace HSL := hid (HSL.out s1 s3); replace HSTT := hid (HSTT.out s2)
    rw [← HNl.out] at HF1 HG1 HSTT
    rw [← HNN.out] at HG1 HSL
    go_upto_region 3 with (first | (go_at_call 15; refine HBG.out.mono ?_; rintro e w2 ⟨rfl, hb2⟩; have HB2 := hid hb2; clear hb2 c0 c1 c3))
    have hsb : w1.heap.size ≤ w2.heap.size := HB2.out.size
    have HKS := hid fun (W : World) (h : ∀ b j, b < w2.heap.size → W.cell? ⟨b, j, none⟩ = w2.cell? ⟨b, j, none⟩) => (show W.cell? ⟨B0, 0, none⟩ = some (.int .i64 P) ∧ W.cell? ⟨B0, 1, none⟩ = some (.slice A N c) ∧ W.cell? ⟨B0, 2, none⟩ = some (.slice A2 n c2) from ⟨(h _ _ (by omega)).trans (HC0.out _ HB2.out), (h _ _ (by omega)).trans (HC1.out _ HB2.out), (h _ _ (by omega)).trans (HC3.out _ HB2.out)⟩)
    go_cut [3, 4] (fun s3 s4 wx => ∃ (b3 b4 : Nat) (ss' : List Sg) (A3 A4 : Option Addr) (c3 c4 : Nat), s3 = .pointer (some ⟨b3, 0, none⟩) ∧ s4 = .pointer (some ⟨b4, 0, none⟩) ∧ Hid (Two P ss l ss' A3 A4 c3 c4 n w2 b3 b4 wx))
    case first =>
      have q0 := HC0.out w2 HB2.out; have q1 := HC1.out w2 HB2.out; have q3 := HC3.out w2 HB2.out
      go_region_held3 (fun w' => w'.cell? ⟨B0, 0, none⟩ = some (.int .i64 P) ∧ w'.cell? ⟨B0, 1, none⟩ = some (.slice A N c) ∧ w'.cell? ⟨B0, 2, none⟩ = some (.slice A2 n c2)) (first | exact ⟨q0, q1, q3⟩ | exact ⟨HC0.out _ (bnext HB2.out (by first | exact HX31.out | exact bal HX31.out _ | exact bal (bal HX31.out _) _ | exact HX30.out | exact bal HX30.out _ | exact bal (bal HX30.out _) _ | exact (Below.refl _ _).drew | exact bal (Below.refl _ _).drew _ | exact bal (bal (Below.refl _ _).drew _) _ | exact (Below.refl _ _) | exact bal (Below.refl _ _) _ | exact bal (bal (Below.refl _ _) _) _ | exact (bal (Below.refl _ _) _).drew | exact (bal (bal (Below.refl _ _) _) _).drew)), HC1.out _ (bnext HB2.out (by first | exact HX31.out | exact bal HX31.out _ | exact bal (bal HX31.out _) _ | exact HX30.out | exact bal HX30.out _ | exact bal (bal HX30.out _) _ | exact (Below.refl _ _).drew | exact bal (Below.refl _ _).drew _ | exact bal (bal (Below.refl _ _).drew _) _ | exact (Below.refl _ _) | exact bal (Below.refl _ _) _ | exact bal (bal (Below.refl _ _) _) _ | exact (bal (Below.refl _ _) _).drew | exact (bal (bal (Below.refl _ _) _) _).drew)), HC3.out _ (bnext HB2.out (by first | exact HX31.out | exact bal HX31.out _ | exact bal (bal HX31.out _) _ | exact HX30.out | exact bal HX30.out _ | exact bal (bal HX30.out _) _ | exact (Below.refl _ _).drew | exact bal (Below.refl _ _).drew _ | exact bal (bal (Below.refl _ _).drew _) _ | exact (Below.refl _ _) | exact bal (Below.refl _ _) _ | exact bal (bal (Below.refl _ _) _) _ | exact (bal (Below.refl _ _) _).drew | exact (bal (bal (Below.refl _ _) _) _).drew))⟩ | (refine ⟨?_, ?_, ?_⟩ <;> (repeat (first | (apply cell_set_far ?_ (Or.inl (by first | omega | (have := HX31.out.size; have := HX30.out.size; simp at *; omega)))) | apply cell_old)) <;> first | exact HC0.out _ (bnext HB2.out (by first | exact HX31.out | exact bal HX31.out _ | exact bal (bal HX31.out _) _ | exact HX30.out | exact bal HX30.out _ | exact bal (bal HX30.out _) _ | exact (Below.refl _ _).drew | exact bal (Below.refl _ _).drew _ | exact bal (bal (Below.refl _ _).drew _) _ | exact (Below.refl _ _) | exact bal (Below.refl _ _) _ | exact bal (bal (Below.refl _ _) _) _ | exact (bal (Below.refl _ _) _).drew | exact (bal (bal (Below.refl _ _) _) _).drew)) | exact HC1.out _ (bnext HB2.out (by first | exact HX31.out | exact bal HX31.out _ | exact bal (bal HX31.out _) _ | exact HX30.out | exact bal HX30.out _ | exact bal (bal HX30.out _) _ | exact (Below.refl _ _).drew | exact bal (Below.refl _ _).drew _ | exact bal (bal (Below.refl _ _).drew _) _ | exact (Below.refl _ _) | exact bal (Below.refl _ _) _ | exact bal (bal (Below.refl _ _) _) _ | exact (bal (Below.refl _ _) _).drew | exact (bal (bal (Below.refl _ _) _) _).drew)) | exact HC3.out _ (bnext HB2.out (by first | exact HX31.out | exact bal HX31.out _ | exact bal (bal HX31.out _) _ | exact HX30.out | exact bal HX30.out _ | exact bal (bal HX30.out _) _ | exact (Below.refl _ _).drew | exact bal (Below.refl _ _).drew _ | exact bal (bal (Below.refl _ _).drew _) _ | exact (Below.refl _ _) | exact bal (Below.refl _ _) _ | exact bal (bal (Below.refl _ _) _) _ | exact (bal (Below.refl _ _) _).drew | exact (bal (bal (Below.refl _ _) _) _).drew))) | fail) (first | (go_at_call 17; refine (HLI.out _ (bnext HB2.out (by first | exact HX31.out | exact bal HX31.out _ | exact bal (bal HX31.out _) _ | exact HX30.out | exact bal HX30.out _ | exact bal (bal HX30.out _) _ | exact (Below.refl _ _).drew | exact bal (Below.refl _ _).drew _ | exact bal (bal (Below.refl _ _).drew _) _ | exact (Below.refl _ _) | exact bal (Below.refl _ _) _ | exact bal (bal (Below.refl _ _) _) _ | exact (bal (Below.refl _ _) _).drew | exact (bal (bal (Below.refl _ _) _) _).drew))).mono ?_; rintro e w30 ⟨A30, c30, ss30, rfl, hl30, hb30⟩; have HL30 := hid (hl30.base (Nat.zero_le _)); have HX30 := hid (show Below w2.heap.size w2 w30 from bnext (by first | exact HX31.out | exact bal HX31.out _ | exact bal (bal HX31.out _) _ | exact HX30.out | exact bal HX30.out _ | exact bal (bal HX30.out _) _ | exact (Below.refl _ _).drew | exact bal (Below.refl _ _).drew _ | exact bal (bal (Below.refl _ _).drew _) _ | exact (Below.refl _ _) | exact bal (Below.refl _ _) _ | exact bal (bal (Below.refl _ _) _) _ | exact (bal (Below.refl _ _) _).drew | exact (bal (bal (Below.refl _ _) _) _).drew) hb30); (first | (have bl := hid (BL.kept bl.out hb30); skip) | (have bl := hid (BL.kept (BL.old bl.out) hb30); skip) | (have bl := hid (BL.kept (BL.old (BL.old bl.out)) hb30); skip) | (have bl := hid (BL.kept (BL.new (w := w2) (b := w2.heap.size) (x := .int .i64 0) (y := .slice none 0 0) rfl) hb30); skip) | (have bl := hid (BL.kept (BL.old (BL.new (w := w2) (b := w2.heap.size) (x := .int .i64 0) (y := .slice none 0 0) rfl)) hb30); skip) | (have bl := hid (BL.kept (BL.new (w := w2.alloc (.cells #[.slice none 0 0] 27)) (b := w2.heap.size + 1) (x := .int .i64 0) (y := .slice none 0 0) (by simp)) hb30); skip) | (have bl := hid (BL.kept (BL.new (w := w2.drew) (b := w2.heap.size) (x := .int .i64 0) (y := .slice none 0 0) rfl) hb30); skip) | (have bl := hid (BL.kept (BL.old (BL.new (w := w2.drew) (b := w2.heap.size) (x := .int .i64 0) (y := .slice none 0 0) rfl)) hb30); skip) | (have bl := hid (BL.kept (BL.new (w := w2.drew.alloc (.cells #[.slice none 0 0] 27)) (b := w2.heap.size + 1) (x := .int .i64 0) (y := .slice none 0 0) (by simp)) hb30); skip) | skip); (first | (have bt := hid (BT.kept bt.out hb30); skip) | (have bt := hid (BT.kept (BT.old bt.out) hb30); skip) | (have bt := hid (BT.kept (BT.old (BT.old bt.out)) hb30); skip) | (have bt := hid (BT.kept (BT.new (w := w2) (b := w2.heap.size) (x := .slice none 0 0) rfl) hb30); skip) | (have bt := hid (BT.kept (BT.old (BT.new (w := w2) (b := w2.heap.size) (x := .slice none 0 0) rfl)) hb30); skip) | (have bt := hid (BT.kept (BT.new (w := w2.alloc (.cells #[.int .i64 0, .slice none 0 0] 24)) (b := w2.heap.size + 1) (x := .slice none 0 0) (by simp)) hb30); skip) | (have bt := hid (BT.kept (BT.new (w := w2.drew) (b := w2.heap.size) (x := .slice none 0 0) rfl) hb30); skip) | (have bt := hid (BT.kept (BT.old (BT.new (w := w2.drew) (b := w2.heap.size) (x := .slice none 0 0) rfl)) hb30); skip) | (have bt := hid (BT.kept (BT.new (w := w2.drew.alloc (.cells #[.int .i64 0, .slice none 0 0] 24)) (b := w2.heap.size + 1) (x := .slice none 0 0) (by simp)) hb30); skip) | skip); clear hl30 hb30) | (go_at_call 18; refine (HTX.out _ (bnext HB2.out (by first | exact HX31.out | exact bal HX31.out _ | exact bal (bal HX31.out _) _ | exact HX30.out | exact bal HX30.out _ | exact bal (bal HX30.out _) _ | exact (Below.refl _ _).drew | exact bal (Below.refl _ _).drew _ | exact bal (bal (Below.refl _ _).drew _) _ | exact (Below.refl _ _) | exact bal (Below.refl _ _) _ | exact bal (bal (Below.refl _ _) _) _ | exact (bal (Below.refl _ _) _).drew | exact (bal (bal (Below.refl _ _) _) _).drew))).mono ?_; rintro e w31 ⟨A31, c31, rfl, ho31, hb31⟩; have HL31 := hid (show CC ss l ss30 A30 A31 c30 c31 w31 from ⟨HL30.out.below (bnext (by first | exact Below.refl _ _ | exact bal (Below.refl _ _) _ | exact bal (bal (Below.refl _ _) _) _) hb31), own_base (by rw [← HNl.out]; exact ho31) (Nat.zero_le _)⟩); have HX31 := hid (show Below w2.heap.size w2 w31 from bnext (by first | exact HX31.out | exact bal HX31.out _ | exact bal (bal HX31.out _) _ | exact HX30.out | exact bal HX30.out _ | exact bal (bal HX30.out _) _ | exact (Below.refl _ _).drew | exact bal (Below.refl _ _).drew _ | exact bal (bal (Below.refl _ _).drew _) _ | exact (Below.refl _ _) | exact bal (Below.refl _ _) _ | exact bal (bal (Below.refl _ _) _) _ | exact (bal (Below.refl _ _) _).drew | exact (bal (bal (Below.refl _ _) _) _).drew) hb31); (first | (have bl := hid (BL.kept bl.out hb31); skip) | (have bl := hid (BL.kept (BL.old bl.out) hb31); skip) | (have bl := hid (BL.kept (BL.old (BL.old bl.out)) hb31); skip) | (have bl := hid (BL.kept (BL.new (w := w30) (b := w30.heap.size) (x := .int .i64 0) (y := .slice none 0 0) rfl) hb31); skip) | (have bl := hid (BL.kept (BL.old (BL.new (w := w30) (b := w30.heap.size) (x := .int .i64 0) (y := .slice none 0 0) rfl)) hb31); skip) | (have bl := hid (BL.kept (BL.new (w := w30.alloc (.cells #[.slice none 0 0] 27)) (b := w30.heap.size + 1) (x := .int .i64 0) (y := .slice none 0 0) (by simp)) hb31); skip) | skip); (first | (have bt := hid (BT.kept bt.out hb31); skip) | (have bt := hid (BT.kept (BT.old bt.out) hb31); skip) | (have bt := hid (BT.kept (BT.old (BT.old bt.out)) hb31); skip) | (have bt := hid (BT.kept (BT.new (w := w30) (b := w30.heap.size) (x := .slice none 0 0) rfl) hb31); skip) | (have bt := hid (BT.kept (BT.old (BT.new (w := w30) (b := w30.heap.size) (x := .slice none 0 0) rfl)) hb31); skip) | (have bt := hid (BT.kept (BT.new (w := w30.alloc (.cells #[.int .i64 0, .slice none 0 0] 24)) (b := w30.heap.size + 1) (x := .slice none 0 0) (by simp)) hb31); skip) | skip); (first | (have lbl := lt_of_block bl.out; have bl0 := (cell_two bl.out).1; have bl1 := (cell_two bl.out).2.1; have bl2 := (cell_two bl.out).2.2 0; have bl3 := (cell_two bl.out).2.2 1) | skip); (first | (have lbt := lt_of_block bt.out; have bt0 := cell_of_one bt.out; have bt1 := free_of_one bt.out) | skip); (first | (have hne := BLT_ne bl.out bt.out; have hne2 := hne.symm) | skip); clear ho31 hb31))
      all_goals
        go_wp2_with fail
        go_meet
        first
          | exact ⟨_, _, _, _, _, _, _, rfl, rfl, hid (two_new HL31.out HX31.out)⟩
          | exact ⟨_, _, _, _, _, _, _, rfl, rfl, hid (two_new' HL31.out HX31.out)⟩
          | exact ⟨_, _, _, _, _, _, _, rfl, rfl, hid (two_l HL31.out HX31.out bl.out (by first | exact Nat.le_refl _ | exact HX30.out.size | omega))⟩
          | exact ⟨_, _, _, _, _, _, _, rfl, rfl, hid (two_t HL31.out HX31.out bt.out (by first | exact Nat.le_refl _ | exact HX30.out.size | omega))⟩
          | exact ⟨_, _, _, _, _, _, _, rfl, rfl, hid (two_lt HL31.out HX31.out bl.out bt.out (by first | exact Nat.le_refl _ | exact HX30.out.size | omega | (have := HX30.out.size; omega)) (by first | exact Nat.le_refl _ | exact HX30.out.size | omega | (have := HX30.out.size; omega)))⟩
          | exact ⟨_, _, _, _, _, _, _, rfl, rfl, hid (two_tl HL31.out HX31.out bl.out bt.out (by first | exact Nat.le_refl _ | exact HX30.out.size | omega | (have := HX30.out.size; omega)) (by first | exact Nat.le_refl _ | exact HX30.out.size | omega | (have := HX30.out.size; omega)))⟩
    obtain ⟨b3, b4, ss3, A3, A4, c3', c4', rfl, rfl, hT⟩ := hcut
    have HT := hid hT.out; have HCP := hid hT.out.cc.copies
    have HB3 := hid (bnext HB2.out hT.out.bel)
    have t0 := (cell_two hT.out.bl).1; have t1 := (cell_two hT.out.bl).2.1; have t2 := cell_of_one hT.out.bt
    have lt3 := lt_of_block hT.out.bl; have lt4 := lt_of_block hT.out.bt
    have q0 := HC0.out _ HB3.out; have q1 := HC1.out _ HB3.out; have q3 := HC3.out _ HB3.out
    obtain ⟨w3, rfl⟩ : ∃ W, W = wc := ⟨_, rfl⟩
    have HTC := hid fun (W : World) (h : Below w3.heap.size w3 W) => (show W.cell? ⟨b3, 0, none⟩ = some (.int .i64 P) ∧ W.cell? ⟨b3, 1, none⟩ = some (.slice A3 ss3.length c3') ∧ W.cell? ⟨b4, 0, none⟩ = some (.slice A4 n c4') from ⟨(h.cell (p := ⟨b3, 0, none⟩) lt3).trans t0, (h.cell (p := ⟨b3, 1, none⟩) lt3).trans t1, (h.cell (p := ⟨b4, 0, none⟩) lt4).trans t2⟩)
    have HAL := hid fun (W : World) (h : Below w3.heap.size w3 W) => (show _ ∧ _ ∧ _ ∧ _ ∧ _ ∧ _ from ⟨HC0.out _ (bnext HB3.out h), HC1.out _ (bnext HB3.out h), HC3.out _ (bnext HB3.out h), (HTC.out W h).1, (HTC.out W h).2.1, (HTC.out W h).2.2⟩)
    go_upto_region 4 with (fail)
    go_region_held3 (fun w' => w'.cell? ⟨B0, 0, none⟩ = some (.int .i64 P) ∧ w'.cell? ⟨B0, 1, none⟩ = some (.slice A N c) ∧ w'.cell? ⟨B0, 2, none⟩ = some (.slice A2 n c2) ∧ w'.cell? ⟨b3, 0, none⟩ = some (.int .i64 P) ∧ w'.cell? ⟨b3, 1, none⟩ = some (.slice A3 ss3.length c3') ∧ w'.cell? ⟨b4, 0, none⟩ = some (.slice A4 n c4')) (first | exact ⟨q0, q1, q3, t0, t1, t2⟩ | exact HAL.out _ HX40.out | exact HAL.out _ HX41.out | exact HAL.out _ HX42.out | exact HAL.out _ HX43.out | exact HAL.out _ HX44.out | fail) (first | (go_at_call 19; refine (HF1.out _ _ _ _ _ _ (HCP.out.below (by first | exact Below.refl _ _ | exact (Below.refl _ _).drew))).mono ?_; rintro e w40 ⟨rfl, hb40⟩; have HX40 := hid (show Below w3.heap.size w3 w40 from bnext (by first | exact (Below.refl _ _).drew | exact Below.refl _ _) hb40); clear hb40) | (go_at_call 20; refine (HG1.out _ (bnext HB3.out HX40.out)).mono ?_; rintro e w41 ⟨rfl, hb41⟩; have HX41 := hid (bnext HX40.out hb41); clear hb41) | (go_at_call 21; refine (HSL.out _ _ _ _ _ _ (HCP.out.below HX41.out) (bnext HB3.out HX41.out)).mono ?_; rintro e w42 ⟨rfl, hb42⟩; have HX42 := hid (bnext HX41.out hb42); clear hb42) | (go_at_call 22; refine (HSTT.out _ _ _ _ _ _ (HCP.out.below HX42.out) (bnext HB3.out HX42.out)).mono ?_; rintro e w43 ⟨rfl, hb43⟩; have HX43 := hid (bnext HX42.out hb43); clear hb43) | (go_at_call 16; refine (HWK.out _).mono ?_; rintro e w44 ⟨rfl, hb44⟩; have HX44 := hid (bnext HX43.out hb44); clear hb44))
    go_wp2_with fail
    go_ret
    exact ⟨rfl, HW.out _ (bnext HB3.out HX44.out)⟩
end Go.Proofs.Ytddbnggficlcfaa
