/- WALK: the law GroupsPlain. -/
import Derived.Test.YtddbnggficlcfaaArgs
import Derived.Test.YtddbnggficlcfaaPlainR
import Derived.Test.YtddbnggficlcfaaMirR
namespace Go.Proofs.Ytddbnggficlcfaa
open Go.RowKit
theorem txt_out {E : Int} {L : List Nd} {W : World} {e : Ending} {w' : World} (hp : TxtPost E L W e w') : ∃ (A' : Option Addr) (c' : Nat), e = .returned (.tuple #[.agg #[.slice A' L.length c'], .int .i64 E]) ∧ Nds w' w'.heap.size A' L ∧ Below W.heap.size W w' := by
  obtain ⟨v, rfl, ho, hb⟩ := hp
  obtain ⟨A', c', rfl⟩ := own_slice ho
  exact ⟨A', c', rfl, Reads.of_own ho, hb⟩
theorem txt_own {E : Int} {L : List Nd} {W : World} {e : Ending} {w' : World} (hp : TxtPost E L W e w') : ∃ (A' : Option Addr) (c' : Nat), e = .returned (.tuple #[.agg #[.slice A' L.length c'], .int .i64 E]) ∧ w'.ownsRow W.heap.size 78 8 (.slice A' L.length c') L.length (flatN L) ∧ Below W.heap.size W w' := by
  obtain ⟨v, rfl, ho, hb⟩ := hp
  obtain ⟨A', c', rfl⟩ := own_slice ho
  exact ⟨A', c', rfl, ho, hb⟩
theorem txt_same {w : World} {L : List Nd} {A B : Option Addr} (n : Nat) (hn : n = L.length) (h : n ≤ 1000000) (c d : Nat) (ra : Nds w w.heap.size A L) (rb : Nds w w.heap.size B L) : Calls Try.prog 22 #[.agg #[.slice A n c], .agg #[.slice B n d]] w fun e w' => e = .returned (.bool true) ∧ Below w.heap.size w w' := by
  subst hn
  exact (sameText_any L L A B c d h h w ra rb).mono fun e w' hb => hb.get (iff_of_true rfl rfl)
theorem plnL_core {P : Int} {ss ss' : List Sg} (h : ss'.map Sg.core = ss.map Sg.core) (l : List Nd) : plnL P ss' l = plnL P ss l := by unfold plnL; rw [chkE_core h]
theorem mirN_even {ss ss' : List Sg} (h : ∀ s, evenOf ss' s = evenOf ss s) : mirN ss' = mirN ss := by funext n; unfold mirN; rw [h]
theorem mrrL_core {P : Int} {ss ss' : List Sg} (h : ss'.map Sg.core = ss.map Sg.core) (l : List Nd) : mrrL P ss' l = mrrL P ss l := by unfold mrrL; rw [chkE_core h, mirN_even (evenOf_core h)]
/-- A box with a value. -/
structure Bx (w : World) (b : Nat) (v : Value) : Prop where
  lt : b < w.heap.size
  cell : w.cell? ⟨b, 0, none⟩ = some v
theorem Bx.new {w : World} {b : Nat} {v : Value} {T : TypeId} (h : b = w.heap.size) : Bx (w.alloc (.cells #[v] T)) b v := ⟨by rw [h]; simp, cell_here h rfl⟩
theorem bxn {w w' : World} {b : Nat} {v : Value} (h : Bx w b v) (hb : Below w.heap.size w w') : Bx w' b v := ⟨Nat.lt_of_lt_of_le h.lt hb.size, (hb.cell (p := ⟨b, 0, none⟩) h.lt).trans h.cell⟩
theorem bxn_d {w w' : World} {b : Nat} {v : Value} (h : Bx w b v) (hb : Below w.drew.heap.size w.drew w') : Bx w' b v := bxn (w := w.drew) ⟨h.lt, h.cell⟩ hb
/-- An empty box. -/
structure Bxf (w : World) (b : Nat) : Prop where
  lt : b < w.heap.size
  cell : w.cell? ⟨b, 0, none⟩ = some (.slice none 0 0)
  free : w.frozen? ⟨b, 0, none⟩ = false
theorem Bxf.new {w : World} {b : Nat} {T : TypeId} (h : b = w.heap.size) : Bxf (w.alloc (.cells #[.slice none 0 0] T)) b := ⟨by rw [h]; simp, cell_here h rfl, free_here h⟩
theorem Bxf.kept {w w' : World} {b : Nat} (h : Bxf w b) (hb : Below w.heap.size w w') : Bxf w' b := ⟨Nat.lt_of_lt_of_le h.lt hb.size, (hb.cell (p := ⟨b, 0, none⟩) h.lt).trans h.cell, (hb.frozen (p := ⟨b, 0, none⟩) h.lt).trans h.free⟩
theorem Bxf.own {w w' : World} {b n c : Nat} {A : Option Addr} {L : List Nd} (h : Bxf w b) (hb : Below w.heap.size w w') (ho : w'.ownsRow w.heap.size 78 8 (.slice A n c) n (flatN L)) (hn : n = L.length) : Bx (w'.setCell ⟨b, 0, none⟩ (.slice A n c)) b (.slice A n c) ∧ Nds (w'.setCell ⟨b, 0, none⟩ (.slice A n c)) (w'.setCell ⟨b, 0, none⟩ (.slice A n c)).heap.size A L := by
  have h2 := h.kept hb
  exact ⟨⟨by have := h2.lt; simp [World.setCell]; exact this, World.cell?_setCell_same _ _ _ h2.cell⟩, Reads.of_own (c := c) (by rw [← hn]; exact ownsRow_setCell_below ho (a := ⟨b, 0, none⟩) h.lt _)⟩
theorem bal {w w' : World} (h : Below w.heap.size w w') (o : Obj) : Below w.heap.size w (w'.alloc o) := h.alloc h.size o
theorem bst {w w' : World} (h : Below w.heap.size w w') {b : Nat} (hb : w.heap.size ≤ b) (v : Value) : Below w.heap.size w (w'.setCell ⟨b, 0, none⟩ v) := h.setCell hb v
theorem Copies.below {ss : List Sg} {l : List Nd} {ss' : List Sg} {A3 A4 : Option Addr} {c3 c4 : Nat} {W W' : World} (h : Copies ss l ss' A3 A4 c3 c4 W) (hb : Below W.heap.size W W') : Copies ss l ss' A3 A4 c3 c4 W' := ⟨(h.sg.below hb).more hb.size, h.core, h.cap, rdn h.nd hb, h.room⟩
set_option maxRecDepth 100000 in
set_option maxHeartbeats 8000000 in
theorem plain_law (P : Int) (ss : List Sg) (l : List Nd) (A A2 : Option Addr) (c c2 : Nat) (hl : ss.length ≤ 9223372036854775807) (hv : ∀ s ∈ ss, s.vals.length ≤ 9223372036854775807) (w : World) (rs : Sgs w w.heap.size A ss) (rn : Nds w w.heap.size A2 l) :
    Calls Try.prog 9 #[.agg #[.int .i64 P, .slice A ss.length c, .slice A2 l.length c2]] w fun e w' => e = .returned (.bool true) ∧ Below w.heap.size w w' := by
  obtain ⟨r1, hr1⟩ : ∃ x : Bool, (x = true ↔ BigP ss l) := by
    by_cases h : BigP ss l
    · exact ⟨true, iff_of_true rfl h⟩
    · exact ⟨false, iff_of_false (by simp) h⟩
  have hsm := fun h : ¬ BigP ss l => small_of h
  obtain ⟨w1, hw1⟩ : ∃ w1, w1 = w.alloc (.cells #[.int .i64 P, .slice A ss.length c, .slice A2 l.length c2] 29) := ⟨_, rfl⟩
  have hb1 : Below w.heap.size w w1 := by rw [hw1]; exact (Below.refl _ _).alloc (Nat.le_refl _) _
  have hz1 : w.heap.size < w1.heap.size := by rw [hw1]; simp
  have c0 : w1.cell? ⟨w.heap.size, 0, none⟩ = some (.int .i64 P) := by rw [hw1]; exact cell_here rfl rfl
  have c1 : w1.cell? ⟨w.heap.size, 1, none⟩ = some (.slice A ss.length c) := by rw [hw1]; exact cell_here rfl rfl
  have c3 : w1.cell? ⟨w.heap.size, 2, none⟩ = some (.slice A2 l.length c2) := by rw [hw1]; exact cell_here rfl rfl
  have HBG := hid ((bigP_any P ss l A A2 c c2 hl hv w1 ((rs.below hb1).more hb1.size)).mono fun e w' hb => hb.get hr1)
  have hF1 := fun (s1 : ss.length ≤ 30) (s2 : l.length ≤ 210) (s3 : ∀ s ∈ ss, s.vals.length ≤ 20) (ss' : List Sg) (A3 A4 : Option Addr) (c3 c4 : Nat) (W : World) (hp : Copies ss l ss' A3 A4 c3 c4 W) (h : Below w1.heap.size w1 W) =>
    (by have := plainE_any P ss' l (by rw [hp.len]; omega) (hp.vals s3) (by omega) A3 A4 c3 c4 W hp.sg hp.nd; rw [chkE_core hp.core l, plnL_core hp.core l] at this; exact this.mono fun e w' hx => txt_own hx : Calls Try.prog 45 #[.agg #[.int .i64 P, .slice A3 ss'.length c3], .agg #[.slice A4 l.length c4]] W fun e w' => ∃ (A' : Option Addr) (c' : Nat), e = .returned (.tuple #[.agg #[.slice A' (plnL P ss l).length c'], .int .i64 (chkE P ss l)]) ∧ w'.ownsRow W.heap.size 78 8 (.slice A' (plnL P ss l).length c') (plnL P ss l).length (flatN (plnL P ss l)) ∧ Below W.heap.size W w')
  have hF2 := fun (s1 : ss.length ≤ 30) (s2 : l.length ≤ 210) (s3 : ∀ s ∈ ss, s.vals.length ≤ 20) (ss' : List Sg) (A3 A4 : Option Addr) (c3 c4 : Nat) (W : World) (hp : Copies ss l ss' A3 A4 c3 c4 W) (h : Below w1.heap.size w1 W) =>
    (by have := mirrorE_any P ss' l (by rw [hp.len]; omega) (hp.vals s3) (by omega) A3 A4 c3 c4 W hp.sg hp.nd; rw [chkE_core hp.core l, mrrL_core hp.core l] at this; exact this.mono fun e w' hx => txt_own hx : Calls Try.prog 47 #[.agg #[.int .i64 P, .slice A3 ss'.length c3], .agg #[.slice A4 l.length c4]] W fun e w' => ∃ (A' : Option Addr) (c' : Nat), e = .returned (.tuple #[.agg #[.slice A' (mrrL P ss l).length c'], .int .i64 (chkE P ss l)]) ∧ w'.ownsRow W.heap.size 78 8 (.slice A' (mrrL P ss l).length c') (mrrL P ss l).length (flatN (mrrL P ss l)) ∧ Below W.heap.size W w')
  have hG1 := fun (s1 : ss.length ≤ 30) (s2 : l.length ≤ 210) (s3 : ∀ s ∈ ss, s.vals.length ≤ 20) (W : World) (h : Below w1.heap.size w1 W) =>
    (refPlain_any P ss l (by omega) (fun s hs => by have := s3 s hs; omega) (by omega) A A2 c c2 W ((rs.below (hb1.trans (h.mono hb1.size))).more (Nat.le_trans hb1.size h.size)) ((rn.below (hb1.trans (h.mono hb1.size))).more (Nat.le_trans hb1.size h.size))).mono fun e w' hx => txt_out hx
  have hG2 := fun (s1 : ss.length ≤ 30) (s2 : l.length ≤ 210) (s3 : ∀ s ∈ ss, s.vals.length ≤ 20) (W : World) (h : Below w1.heap.size w1 W) =>
    (refMirror_any P ss l (by omega) (fun s hs => by have := s3 s hs; omega) (by omega) A A2 c c2 W ((rs.below (hb1.trans (h.mono hb1.size))).more (Nat.le_trans hb1.size h.size)) ((rn.below (hb1.trans (h.mono hb1.size))).more (Nat.le_trans hb1.size h.size))).mono fun e w' hx => txt_out hx
  have hk1 := (txt_len (P := P) (ss := ss) (l := l)).1
  have hk2 := (txt_len (P := P) (ss := ss) (l := l)).2
  generalize chkE P ss l = E1 at hF1 hG1 hF2 hG2
  generalize plnL P ss l = L1 at hF1 hG1 hk1
  generalize mrrL P ss l = L2 at hF2 hG2 hk2
  have hrs := rs; have hrn := rn
  obtain ⟨N, hN⟩ : ∃ N, N = ss.length := ⟨_, rfl⟩
  obtain ⟨n, hn⟩ : ∃ n, n = l.length := ⟨_, rfl⟩
  rw [← hN] at c1 hw1 HBG ⊢
  rw [← hn] at c3 hw1 HBG ⊢
  have HW1 := hid hw1; have HB1 := hid hb1; have HSM := hid hsm; have HR1 := hid hr1; have HNN := hid hN; have HNl := hid hn; have HRS := hid hrs; have HRN := hid hrn
  have HF1 := hid hF1; have HF2 := hid hF2; have HG1 := hid hG1; have HG2 := hid hG2
  have HK1 := hid hk1; have HK2 := hid hk2
  clear hF1 hF2 hG1 hG2 hk1 hk2
  have HW : Hid (∀ wr, Below w1.heap.size w1 wr → Below w.heap.size w wr) := fun wr h => hb1.trans (h.mono (by omega))
  have HWK := hid fun (W : World) => works_any W
  have HC0 := hid fun (wr : World) (h : Below w1.heap.size w1 wr) => (h.cell (p := ⟨w.heap.size, 0, none⟩) hz1).trans c0
  have HC1 := hid fun (wr : World) (h : Below w1.heap.size w1 wr) => (h.cell (p := ⟨w.heap.size, 1, none⟩) hz1).trans c1
  have HC3 := hid fun (wr : World) (h : Below w1.heap.size w1 wr) => (h.cell (p := ⟨w.heap.size, 2, none⟩) hz1).trans c3
  clear hw1 rs rn hsm hr1 hN hn hv hl hb1 hrs hrn
  go_enter Try.func9, Try.ntmps9
  go_upto_region 1 with (fail)
  rw [← HW1.out]
  clear HW1
  obtain ⟨B0, hB0⟩ : ∃ B0, B0 = w.heap.size := ⟨_, rfl⟩
  rw [← hB0] at c0 c1 c3 hz1 HC0 HC1 HC3 ⊢
  clear hB0
  cases r1 with
  | true =>
    go_wp2_with (first | (go_at_call 15; refine HBG.out.mono ?_; rintro e w2 ⟨rfl, hb2⟩; have HB2 := hid hb2; clear hb2 c0 c1 c3) | (go_at_call 16; refine (HWK.out _).mono ?_; rintro e w3 ⟨rfl, hb3⟩; have HB3 := hid (bnext HB2.out hb3); clear hb3))
    go_ret
    exact ⟨rfl, HW.out _ HB3.out⟩
  | false =>
    obtain ⟨s1, s2, s3⟩ := HSM.out (fun h => by have := HR1.out.2 h; cases this)
    have HLI := hid fun (W : World) (h : Below w1.heap.size w1 W) => list_at (P := P) (c := c) (V := .slice A2 n c2) s1 s3 (HW.out _ (Below.refl _ _)) HRS.out W h
    have HTX := hid fun (W : World) (h : Below w1.heap.size w1 W) => text_at (P := P) (A := A) (N := N) (c := c) (c2 := c2) s2 (HW.out _ (Below.refl _ _)) HRN.out W h
    rw [← HNN.out] at HLI
    rw [← HNl.out] at HTX
    replace HF1 := hid (HF1.out s1 s2 s3); replace HF2 := hid (HF2.out s1 s2 s3); replace HG1 := hid (HG1.out s1 s2 s3); replace HG2 := hid (HG2.out s1 s2 s3)
    rw [← HNl.out] at HF1 HF2 HG1 HG2
    rw [← HNN.out] at HG1 HG2
    have hk1 := HK1.out; have hk2 := HK2.out
    obtain ⟨n1, hn1⟩ : ∃ n1, n1 = L1.length := ⟨_, rfl⟩
    obtain ⟨n2, hn2⟩ : ∃ n2, n2 = L2.length := ⟨_, rfl⟩
    rw [← hn1] at HF1 HG1 hk1
    rw [← hn2] at HF2 HG2 hk2
    have HN1 := hid hn1; have HN2 := hid hn2
    have hs1 : n1 ≤ 1000000 := by omega
    have hs2 : n2 ≤ 1000000 := by omega
    clear hk1 hk2 hn1 hn2
    go_upto_region 3 with (first | (go_at_call 15; refine HBG.out.mono ?_; rintro e w2 ⟨rfl, hb2⟩; have HB2 := hid hb2; clear hb2 c0 c1 c3))
    go_cut [3, 4] (fun s3 s4 wx => ∃ (b : Nat) (A' : Option Addr) (c' : Nat), s3 = .pointer (some ⟨b, 0, none⟩) ∧ s4 = .int .i64 E1 ∧ Hid (Bx wx b (.slice A' n1 c')) ∧ Hid (Nds wx wx.heap.size A' L1) ∧ Hid (Below w2.heap.size w2 wx))
    case first =>
      have q0 := HC0.out w2 HB2.out; have q1 := HC1.out w2 HB2.out; have q3 := HC3.out w2 HB2.out
      have hsb : w1.heap.size ≤ w2.heap.size := HB2.out.size
      go_region_held3 (fun w' => w'.cell? ⟨B0, 0, none⟩ = some (.int .i64 P) ∧ w'.cell? ⟨B0, 1, none⟩ = some (.slice A N c) ∧ w'.cell? ⟨B0, 2, none⟩ = some (.slice A2 n c2)) (first | exact ⟨q0, q1, q3⟩ | exact ⟨HC0.out _ (bnext HB2.out (by first | exact HX32.out | exact bal HX32.out _ | exact HX31.out | exact bal HX31.out _ | exact HX30.out | exact bal HX30.out _ | exact (Below.refl _ _).drew | exact bal (Below.refl _ _).drew _ | exact (bal (Below.refl _ _) _).drew | exact Below.refl _ _ | exact bal (Below.refl _ _) _ | exact bst HX32.out HX31.out.size _ | exact bst HX32.out HX30.out.size _ | exact bst HX32.out HX32.out.size _ | exact bst HX32.out (Nat.le_refl _) _)), HC1.out _ (bnext HB2.out (by first | exact HX32.out | exact bal HX32.out _ | exact HX31.out | exact bal HX31.out _ | exact HX30.out | exact bal HX30.out _ | exact (Below.refl _ _).drew | exact bal (Below.refl _ _).drew _ | exact (bal (Below.refl _ _) _).drew | exact Below.refl _ _ | exact bal (Below.refl _ _) _ | exact bst HX32.out HX31.out.size _ | exact bst HX32.out HX30.out.size _ | exact bst HX32.out HX32.out.size _ | exact bst HX32.out (Nat.le_refl _) _)), HC3.out _ (bnext HB2.out (by first | exact HX32.out | exact bal HX32.out _ | exact HX31.out | exact bal HX31.out _ | exact HX30.out | exact bal HX30.out _ | exact (Below.refl _ _).drew | exact bal (Below.refl _ _).drew _ | exact (bal (Below.refl _ _) _).drew | exact Below.refl _ _ | exact bal (Below.refl _ _) _ | exact bst HX32.out HX31.out.size _ | exact bst HX32.out HX30.out.size _ | exact bst HX32.out HX32.out.size _ | exact bst HX32.out (Nat.le_refl _) _))⟩ | fail) (first | (go_at_call 17; refine (HLI.out _ (bnext HB2.out (by first | exact HX32.out | exact bal HX32.out _ | exact HX31.out | exact bal HX31.out _ | exact HX30.out | exact bal HX30.out _ | exact (Below.refl _ _).drew | exact bal (Below.refl _ _).drew _ | exact (bal (Below.refl _ _) _).drew | exact Below.refl _ _ | exact bal (Below.refl _ _) _ | exact bst HX32.out HX31.out.size _ | exact bst HX32.out HX30.out.size _ | exact bst HX32.out HX32.out.size _ | exact bst HX32.out (Nat.le_refl _) _))).mono ?_; rintro e w30 ⟨A30, c30, ss30, rfl, hl30, hb30⟩; have HL30 := hid hl30; have HX30 := hid (show Below w2.heap.size w2 w30 from bnext (by first | exact HX32.out | exact bal HX32.out _ | exact HX31.out | exact bal HX31.out _ | exact HX30.out | exact bal HX30.out _ | exact (Below.refl _ _).drew | exact bal (Below.refl _ _).drew _ | exact (bal (Below.refl _ _) _).drew | exact Below.refl _ _ | exact bal (Below.refl _ _) _ | exact bst HX32.out HX31.out.size _ | exact bst HX32.out HX30.out.size _ | exact bst HX32.out HX32.out.size _ | exact bst HX32.out (Nat.le_refl _) _) hb30); (first | (have bf := hid (Bxf.kept bf.out hb30); skip) | (have bf := hid (Bxf.kept (Bxf.new (w := w2) (b := w2.heap.size) rfl) hb30)) | (have bf := hid (Bxf.kept (Bxf.new (w := w2.drew) (b := w2.heap.size) rfl) hb30)) | skip); clear hl30 hb30) | (go_at_call 18; refine (HTX.out _ (bnext HB2.out (by first | exact HX32.out | exact bal HX32.out _ | exact HX31.out | exact bal HX31.out _ | exact HX30.out | exact bal HX30.out _ | exact (Below.refl _ _).drew | exact bal (Below.refl _ _).drew _ | exact (bal (Below.refl _ _) _).drew | exact Below.refl _ _ | exact bal (Below.refl _ _) _ | exact bst HX32.out HX31.out.size _ | exact bst HX32.out HX30.out.size _ | exact bst HX32.out HX32.out.size _ | exact bst HX32.out (Nat.le_refl _) _))).mono ?_; rintro e w31 ⟨A31, c31, rfl, ho31, hb31⟩; have HP31 := hid (Copies.mk' (c4 := c31) HL30.out (bnext (by first | exact Below.refl _ _ | exact bal (Below.refl _ _) _) hb31) (by rw [← HNl.out]; exact ho31)); have HX31 := hid (show Below w2.heap.size w2 w31 from bnext (by first | exact HX32.out | exact bal HX32.out _ | exact HX31.out | exact bal HX31.out _ | exact HX30.out | exact bal HX30.out _ | exact (Below.refl _ _).drew | exact bal (Below.refl _ _).drew _ | exact (bal (Below.refl _ _) _).drew | exact Below.refl _ _ | exact bal (Below.refl _ _) _ | exact bst HX32.out HX31.out.size _ | exact bst HX32.out HX30.out.size _ | exact bst HX32.out HX32.out.size _ | exact bst HX32.out (Nat.le_refl _) _) hb31); (first | (have bf := hid (Bxf.kept bf.out hb31); skip) | (have bf := hid (Bxf.kept (Bxf.new (w := w30) (b := w30.heap.size) rfl) hb31)) | (have bf := hid (Bxf.kept (Bxf.new (w := w30.drew) (b := w30.heap.size) rfl) hb31)) | skip); clear ho31 hb31) | (go_at_call 45; refine (HF1.out _ _ _ _ _ _ (HP31.out.below (by first | exact Below.refl _ _ | exact bal (Below.refl _ _) _)) (bnext HB2.out (by first | exact HX32.out | exact bal HX32.out _ | exact HX31.out | exact bal HX31.out _ | exact HX30.out | exact bal HX30.out _ | exact (Below.refl _ _).drew | exact bal (Below.refl _ _).drew _ | exact (bal (Below.refl _ _) _).drew | exact Below.refl _ _ | exact bal (Below.refl _ _) _ | exact bst HX32.out HX31.out.size _ | exact bst HX32.out HX30.out.size _ | exact bst HX32.out HX32.out.size _ | exact bst HX32.out (Nat.le_refl _) _))).mono ?_; rintro e w32 ⟨A32, c32, rfl, hr32, hb32⟩; have HR32 := hid (show Nds w32 w32.heap.size A32 L1 from Reads.of_own (by rw [← HN1.out]; exact hr32)); (first | (have bo := hid (Bxf.own bf.out hb32 hr32 HN1.out); skip) | (have bo := hid (Bxf.own (Bxf.new (w := w31) (b := w31.heap.size) rfl) hb32 hr32 HN1.out)) | skip); have HX32 := hid (show Below w2.heap.size w2 w32 from bnext (by first | exact HX32.out | exact bal HX32.out _ | exact HX31.out | exact bal HX31.out _ | exact HX30.out | exact bal HX30.out _ | exact (Below.refl _ _).drew | exact bal (Below.refl _ _).drew _ | exact (bal (Below.refl _ _) _).drew | exact Below.refl _ _ | exact bal (Below.refl _ _) _ | exact bst HX32.out HX31.out.size _ | exact bst HX32.out HX30.out.size _ | exact bst HX32.out HX32.out.size _ | exact bst HX32.out (Nat.le_refl _) _) hb32); (first | (have bf := hid (Bxf.kept bf.out hb32); skip) | (have bf := hid (Bxf.kept (Bxf.new (w := w31) (b := w31.heap.size) rfl) hb32)) | (have bf := hid (Bxf.kept (Bxf.new (w := w31.drew) (b := w31.heap.size) rfl) hb32)) | skip); (first | (have bfc := bf.out.cell; have bff := bf.out.free) | skip); clear hr32 hb32))
      all_goals
        go_wp2_with fail
        go_meet
        first
          | exact ⟨_, _, _, rfl, rfl, hid bo.out.1, hid bo.out.2, hid (by first | exact HX32.out | exact bal HX32.out _ | exact HX31.out | exact bal HX31.out _ | exact HX30.out | exact bal HX30.out _ | exact (Below.refl _ _).drew | exact bal (Below.refl _ _).drew _ | exact (bal (Below.refl _ _) _).drew | exact Below.refl _ _ | exact bal (Below.refl _ _) _ | exact bst HX32.out HX31.out.size _ | exact bst HX32.out HX30.out.size _ | exact bst HX32.out HX32.out.size _ | exact bst HX32.out (Nat.le_refl _) _)⟩
          | exact ⟨_, _, _, rfl, rfl, hid (Bx.new rfl), hid (rdn HR32.out (bal (Below.refl _ _) _)), hid (bal HX32.out _)⟩
    obtain ⟨b3, A3, c3, rfl, rfl, BX3, HR3, HX3⟩ := hcut
    obtain ⟨w3, rfl⟩ : ∃ W, W = wc := ⟨_, rfl⟩
    have HB3 := hid (bnext HB2.out HX3.out)
    clear HX3
    have q0 := HC0.out w3 HB3.out; have q1 := HC1.out w3 HB3.out; have q3 := HC3.out w3 HB3.out
    go_upto_region 5 with (first | (go_at_call 46; refine (HG1.out _ HB3.out).mono ?_; rintro e w4 ⟨A4, c4, rfl, hr4, hb4⟩; have HR4 := hid hr4; have HB4 := hid (bnext HB3.out hb4); replace HR3 := hid (rdn HR3.out hb4); replace BX3 := hid (bxn BX3.out hb4); clear hr4 hb4 q0 q1 q3))
    obtain ⟨w43, hw43⟩ : ∃ W, W = w4.alloc (.cells #[.slice A4 n1 c4] 27) := ⟨_, rfl⟩
    obtain ⟨b43, hb43⟩ : ∃ b, b = w4.heap.size := ⟨_, rfl⟩
    have hA : Below w4.heap.size w4 w43 := by rw [hw43]; exact (Below.refl _ _).alloc (Nat.le_refl _) _
    have BX43 := hid (show Bx w43 b43 (.slice A4 n1 c4) from by rw [hw43]; exact Bx.new hb43)
    rw [← hw43, ← hb43]
    have HB43 := hid (bnext HB4.out hA); replace HR3 := hid (rdn HR3.out hA); replace BX3 := hid (bxn BX3.out hA); replace HR4 := hid (rdn HR4.out hA); clear hA hw43 hb43
    go_cut [7, 8] (fun s3 s4 wx => ∃ (b : Nat) (A' : Option Addr) (c' : Nat), s3 = .pointer (some ⟨b, 0, none⟩) ∧ s4 = .int .i64 E1 ∧ Hid (Bx wx b (.slice A' n2 c')) ∧ Hid (Nds wx wx.heap.size A' L2) ∧ Hid (Below w43.heap.size w43 wx))
    case first =>
      have q0 := HC0.out w43 HB43.out; have q1 := HC1.out w43 HB43.out; have q3 := HC3.out w43 HB43.out
      have hsb : w1.heap.size ≤ w43.heap.size := HB43.out.size
      go_region_held3 (fun w' => w'.cell? ⟨B0, 0, none⟩ = some (.int .i64 P) ∧ w'.cell? ⟨B0, 1, none⟩ = some (.slice A N c) ∧ w'.cell? ⟨B0, 2, none⟩ = some (.slice A2 n c2)) (first | exact ⟨q0, q1, q3⟩ | exact ⟨HC0.out _ (bnext HB43.out (by first | exact HX52.out | exact bal HX52.out _ | exact HX51.out | exact bal HX51.out _ | exact HX50.out | exact bal HX50.out _ | exact (Below.refl _ _).drew | exact bal (Below.refl _ _).drew _ | exact (bal (Below.refl _ _) _).drew | exact Below.refl _ _ | exact bal (Below.refl _ _) _ | exact bst HX52.out HX51.out.size _ | exact bst HX52.out HX50.out.size _ | exact bst HX52.out HX52.out.size _ | exact bst HX52.out (Nat.le_refl _) _)), HC1.out _ (bnext HB43.out (by first | exact HX52.out | exact bal HX52.out _ | exact HX51.out | exact bal HX51.out _ | exact HX50.out | exact bal HX50.out _ | exact (Below.refl _ _).drew | exact bal (Below.refl _ _).drew _ | exact (bal (Below.refl _ _) _).drew | exact Below.refl _ _ | exact bal (Below.refl _ _) _ | exact bst HX52.out HX51.out.size _ | exact bst HX52.out HX50.out.size _ | exact bst HX52.out HX52.out.size _ | exact bst HX52.out (Nat.le_refl _) _)), HC3.out _ (bnext HB43.out (by first | exact HX52.out | exact bal HX52.out _ | exact HX51.out | exact bal HX51.out _ | exact HX50.out | exact bal HX50.out _ | exact (Below.refl _ _).drew | exact bal (Below.refl _ _).drew _ | exact (bal (Below.refl _ _) _).drew | exact Below.refl _ _ | exact bal (Below.refl _ _) _ | exact bst HX52.out HX51.out.size _ | exact bst HX52.out HX50.out.size _ | exact bst HX52.out HX52.out.size _ | exact bst HX52.out (Nat.le_refl _) _))⟩ | fail) (first | (go_at_call 17; refine (HLI.out _ (bnext HB43.out (by first | exact HX52.out | exact bal HX52.out _ | exact HX51.out | exact bal HX51.out _ | exact HX50.out | exact bal HX50.out _ | exact (Below.refl _ _).drew | exact bal (Below.refl _ _).drew _ | exact (bal (Below.refl _ _) _).drew | exact Below.refl _ _ | exact bal (Below.refl _ _) _ | exact bst HX52.out HX51.out.size _ | exact bst HX52.out HX50.out.size _ | exact bst HX52.out HX52.out.size _ | exact bst HX52.out (Nat.le_refl _) _))).mono ?_; rintro e w50 ⟨A50, c50, ss50, rfl, hl50, hb50⟩; have HL50 := hid hl50; have HX50 := hid (show Below w43.heap.size w43 w50 from bnext (by first | exact HX52.out | exact bal HX52.out _ | exact HX51.out | exact bal HX51.out _ | exact HX50.out | exact bal HX50.out _ | exact (Below.refl _ _).drew | exact bal (Below.refl _ _).drew _ | exact (bal (Below.refl _ _) _).drew | exact Below.refl _ _ | exact bal (Below.refl _ _) _ | exact bst HX52.out HX51.out.size _ | exact bst HX52.out HX50.out.size _ | exact bst HX52.out HX52.out.size _ | exact bst HX52.out (Nat.le_refl _) _) hb50); (first | (have bf := hid (Bxf.kept bf.out hb50); skip) | (have bf := hid (Bxf.kept (Bxf.new (w := w43) (b := w43.heap.size) rfl) hb50)) | (have bf := hid (Bxf.kept (Bxf.new (w := w43.drew) (b := w43.heap.size) rfl) hb50)) | skip); clear hl50 hb50) | (go_at_call 18; refine (HTX.out _ (bnext HB43.out (by first | exact HX52.out | exact bal HX52.out _ | exact HX51.out | exact bal HX51.out _ | exact HX50.out | exact bal HX50.out _ | exact (Below.refl _ _).drew | exact bal (Below.refl _ _).drew _ | exact (bal (Below.refl _ _) _).drew | exact Below.refl _ _ | exact bal (Below.refl _ _) _ | exact bst HX52.out HX51.out.size _ | exact bst HX52.out HX50.out.size _ | exact bst HX52.out HX52.out.size _ | exact bst HX52.out (Nat.le_refl _) _))).mono ?_; rintro e w51 ⟨A51, c51, rfl, ho51, hb51⟩; have HP51 := hid (Copies.mk' (c4 := c51) HL50.out (bnext (by first | exact Below.refl _ _ | exact bal (Below.refl _ _) _) hb51) (by rw [← HNl.out]; exact ho51)); have HX51 := hid (show Below w43.heap.size w43 w51 from bnext (by first | exact HX52.out | exact bal HX52.out _ | exact HX51.out | exact bal HX51.out _ | exact HX50.out | exact bal HX50.out _ | exact (Below.refl _ _).drew | exact bal (Below.refl _ _).drew _ | exact (bal (Below.refl _ _) _).drew | exact Below.refl _ _ | exact bal (Below.refl _ _) _ | exact bst HX52.out HX51.out.size _ | exact bst HX52.out HX50.out.size _ | exact bst HX52.out HX52.out.size _ | exact bst HX52.out (Nat.le_refl _) _) hb51); (first | (have bf := hid (Bxf.kept bf.out hb51); skip) | (have bf := hid (Bxf.kept (Bxf.new (w := w50) (b := w50.heap.size) rfl) hb51)) | (have bf := hid (Bxf.kept (Bxf.new (w := w50.drew) (b := w50.heap.size) rfl) hb51)) | skip); clear ho51 hb51) | (go_at_call 47; refine (HF2.out _ _ _ _ _ _ (HP51.out.below (by first | exact Below.refl _ _ | exact bal (Below.refl _ _) _)) (bnext HB43.out (by first | exact HX52.out | exact bal HX52.out _ | exact HX51.out | exact bal HX51.out _ | exact HX50.out | exact bal HX50.out _ | exact (Below.refl _ _).drew | exact bal (Below.refl _ _).drew _ | exact (bal (Below.refl _ _) _).drew | exact Below.refl _ _ | exact bal (Below.refl _ _) _ | exact bst HX52.out HX51.out.size _ | exact bst HX52.out HX50.out.size _ | exact bst HX52.out HX52.out.size _ | exact bst HX52.out (Nat.le_refl _) _))).mono ?_; rintro e w52 ⟨A52, c52, rfl, hr52, hb52⟩; have HR52 := hid (show Nds w52 w52.heap.size A52 L2 from Reads.of_own (by rw [← HN2.out]; exact hr52)); (first | (have bo := hid (Bxf.own bf.out hb52 hr52 HN2.out); skip) | (have bo := hid (Bxf.own (Bxf.new (w := w51) (b := w51.heap.size) rfl) hb52 hr52 HN2.out)) | skip); have HX52 := hid (show Below w43.heap.size w43 w52 from bnext (by first | exact HX52.out | exact bal HX52.out _ | exact HX51.out | exact bal HX51.out _ | exact HX50.out | exact bal HX50.out _ | exact (Below.refl _ _).drew | exact bal (Below.refl _ _).drew _ | exact (bal (Below.refl _ _) _).drew | exact Below.refl _ _ | exact bal (Below.refl _ _) _ | exact bst HX52.out HX51.out.size _ | exact bst HX52.out HX50.out.size _ | exact bst HX52.out HX52.out.size _ | exact bst HX52.out (Nat.le_refl _) _) hb52); (first | (have bf := hid (Bxf.kept bf.out hb52); skip) | (have bf := hid (Bxf.kept (Bxf.new (w := w51) (b := w51.heap.size) rfl) hb52)) | (have bf := hid (Bxf.kept (Bxf.new (w := w51.drew) (b := w51.heap.size) rfl) hb52)) | skip); (first | (have bfc := bf.out.cell; have bff := bf.out.free) | skip); clear hr52 hb52))
      all_goals
        go_wp2_with fail
        go_meet
        first
          | exact ⟨_, _, _, rfl, rfl, hid bo.out.1, hid bo.out.2, hid (by first | exact HX52.out | exact bal HX52.out _ | exact HX51.out | exact bal HX51.out _ | exact HX50.out | exact bal HX50.out _ | exact (Below.refl _ _).drew | exact bal (Below.refl _ _).drew _ | exact (bal (Below.refl _ _) _).drew | exact Below.refl _ _ | exact bal (Below.refl _ _) _ | exact bst HX52.out HX51.out.size _ | exact bst HX52.out HX50.out.size _ | exact bst HX52.out HX52.out.size _ | exact bst HX52.out (Nat.le_refl _) _)⟩
          | exact ⟨_, _, _, rfl, rfl, hid (Bx.new rfl), hid (rdn HR52.out (bal (Below.refl _ _) _)), hid (bal HX52.out _)⟩
    obtain ⟨b5, A5, c5, rfl, rfl, BX5, HR5, HX5⟩ := hcut
    obtain ⟨w5, rfl⟩ : ∃ W, W = wc := ⟨_, rfl⟩
    have HB5 := hid (bnext HB43.out HX5.out)
    replace HR3 := hid (rdn HR3.out HX5.out)
    replace BX3 := hid (bxn BX3.out HX5.out)
    replace HR4 := hid (rdn HR4.out HX5.out)
    replace BX43 := hid (bxn BX43.out HX5.out)
    clear HX5
    have q0 := HC0.out w5 HB5.out; have q1 := HC1.out w5 HB5.out; have q3 := HC3.out w5 HB5.out
    go_upto_region 7 with (first | (go_at_call 48; refine (HG2.out _ HB5.out).mono ?_; rintro e w6 ⟨A6, c6, rfl, hr6, hb6⟩; have HR6 := hid hr6; have HB6 := hid (bnext HB5.out hb6); replace HR3 := hid (rdn HR3.out hb6); replace BX3 := hid (bxn BX3.out hb6); replace HR4 := hid (rdn HR4.out hb6); replace BX43 := hid (bxn BX43.out hb6); replace HR5 := hid (rdn HR5.out hb6); replace BX5 := hid (bxn BX5.out hb6); clear hr6 hb6 q0 q1 q3))
    obtain ⟨w63, hw63⟩ : ∃ W, W = w6.alloc (.cells #[.slice A6 n2 c6] 27) := ⟨_, rfl⟩
    obtain ⟨b63, hb63⟩ : ∃ b, b = w6.heap.size := ⟨_, rfl⟩
    have hA : Below w6.heap.size w6 w63 := by rw [hw63]; exact (Below.refl _ _).alloc (Nat.le_refl _) _
    have BX63 := hid (show Bx w63 b63 (.slice A6 n2 c6) from by rw [hw63]; exact Bx.new hb63)
    rw [← hw63, ← hb63]
    have HB63 := hid (bnext HB6.out hA); replace HR3 := hid (rdn HR3.out hA); replace BX3 := hid (bxn BX3.out hA); replace HR4 := hid (rdn HR4.out hA); replace BX43 := hid (bxn BX43.out hA); replace HR5 := hid (rdn HR5.out hA); replace BX5 := hid (bxn BX5.out hA); replace HR6 := hid (rdn HR6.out hA); clear hA hw63 hb63
    have hwk := HWK.out
    have HS1 := hid (txt_same n1 HN1.out hs1 c3 c4 HR3.out HR4.out)
    have x1 := BX3.out.cell; have x2 := BX43.out.cell
    go_wp2_with (first | (go_at_call 22; refine HS1.out.mono ?_; rintro e w9 ⟨rfl, hb9⟩; have HB9 := hid (bnext HB63.out hb9); have HS2 := hid (txt_same n2 HN2.out hs2 c5 c6 (rdn HR5.out hb9) (rdn HR6.out hb9)); have x3 := (bxn BX5.out hb9).cell; have x4 := (bxn BX63.out hb9).cell; clear hb9 HS1 x1 x2) | (go_at_call 22; refine HS2.out.mono ?_; rintro e w10 ⟨rfl, hb10⟩; have HB10 := hid (bnext HB9.out hb10); clear hb10 HS2 x3 x4) | (go_at_call 16; refine (HWK.out _).mono ?_; rintro e w13 ⟨rfl, hb13⟩; have HB13 := hid (bnext HB10.out hb13); clear hb13))
    go_ret
    exact ⟨rfl, HW.out _ HB13.out⟩
end Go.Proofs.Ytddbnggficlcfaa
