/- WALK: boxes in memory; a box that is turned (printed by gen_turnw.py). -/
import Derived.Test.YtimblabaeclhpaaGreatGroupsW
import Derived.Laws.CopyOwn
import Derived.Deep.MidRow
import Derived.Test.YtimblabaeclhpaaGreatStdL
namespace Go.Proofs.YtimblabaeclhpaaGreat
open Go.RowKit
/-- A box in memory. -/
def BxB (W : World) (b : Nat) (v : Bxv) : Prop := W.heap[b]? = some (.cells #[.int .i64 v.nd.kind, .int .i64 v.nd.sign, .int .i64 v.nd.turn, .bool v.nd.mir, .int .i64 v.nd.state, .int .i64 v.nd.mn, .int .i64 v.nd.mx, .int .i64 v.x.n, .int .i64 v.x.d, .int .i64 v.y.n, .int .i64 v.y.d, .int .i64 v.w.n, .int .i64 v.w.d, .int .i64 v.h.n, .int .i64 v.h.d] 44 (0, 0))
structure BxC (W : World) (b : Nat) (v : Bxv) : Prop where
  k0 : W.cell? ⟨b, 0, none⟩ = some (.int .i64 v.nd.kind)
  k1 : W.cell? ⟨b, 1, none⟩ = some (.int .i64 v.nd.sign)
  k2 : W.cell? ⟨b, 2, none⟩ = some (.int .i64 v.nd.turn)
  k3 : W.cell? ⟨b, 3, none⟩ = some (.bool v.nd.mir)
  k4 : W.cell? ⟨b, 4, none⟩ = some (.int .i64 v.nd.state)
  k5 : W.cell? ⟨b, 5, none⟩ = some (.int .i64 v.nd.mn)
  k6 : W.cell? ⟨b, 6, none⟩ = some (.int .i64 v.nd.mx)
  k7 : W.cell? ⟨b, 7, none⟩ = some (.int .i64 v.x.n)
  k8 : W.cell? ⟨b, 8, none⟩ = some (.int .i64 v.x.d)
  k9 : W.cell? ⟨b, 9, none⟩ = some (.int .i64 v.y.n)
  k10 : W.cell? ⟨b, 10, none⟩ = some (.int .i64 v.y.d)
  k11 : W.cell? ⟨b, 11, none⟩ = some (.int .i64 v.w.n)
  k12 : W.cell? ⟨b, 12, none⟩ = some (.int .i64 v.w.d)
  k13 : W.cell? ⟨b, 13, none⟩ = some (.int .i64 v.h.n)
  k14 : W.cell? ⟨b, 14, none⟩ = some (.int .i64 v.h.d)
  z0 : W.frozen? ⟨b, 0, none⟩ = false
  z1 : W.frozen? ⟨b, 1, none⟩ = false
  z2 : W.frozen? ⟨b, 2, none⟩ = false
  z3 : W.frozen? ⟨b, 3, none⟩ = false
  z4 : W.frozen? ⟨b, 4, none⟩ = false
  z5 : W.frozen? ⟨b, 5, none⟩ = false
  z6 : W.frozen? ⟨b, 6, none⟩ = false
  z7 : W.frozen? ⟨b, 7, none⟩ = false
  z8 : W.frozen? ⟨b, 8, none⟩ = false
  z9 : W.frozen? ⟨b, 9, none⟩ = false
  z10 : W.frozen? ⟨b, 10, none⟩ = false
  z11 : W.frozen? ⟨b, 11, none⟩ = false
  z12 : W.frozen? ⟨b, 12, none⟩ = false
  z13 : W.frozen? ⟨b, 13, none⟩ = false
  z14 : W.frozen? ⟨b, 14, none⟩ = false
theorem BxB.cells {W : World} {b : Nat} {v : Bxv} (h : BxB W b v) : BxC W b v := by
  unfold BxB at h
  constructor <;> simp [World.cell?, World.frozen?, h]
theorem BxB.below {W W' : World} {b : Nat} {v : Bxv} (h : BxB W b v) (hb : Below W.heap.size W W') : BxB W' b v := (hb.block b (lt_of_block h)).trans h
theorem BxB.far {W : World} {b b' k : Nat} {g : Bxv} {v : Value} (h : BxB W b g) (hne : b' ≠ b) : BxB (W.setCell ⟨b', k, none⟩ v) b g := by
  unfold BxB at h ⊢
  simp [World.setCell, Array.getElem?_modify, hne, h]
theorem BxB.set_x {W : World} {b : Nat} {v : Bxv} {f : Fr} (h : BxB W b v) : BxB ((W.setCell ⟨b, 7, none⟩ (.int .i64 f.n)).setCell ⟨b, 8, none⟩ (.int .i64 f.d)) b { v with x := f } := by
  unfold BxB at h ⊢
  simp [World.setCell, h, Array.getElem?_modify] <;> rfl
theorem BxB.set_y {W : World} {b : Nat} {v : Bxv} {f : Fr} (h : BxB W b v) : BxB ((W.setCell ⟨b, 9, none⟩ (.int .i64 f.n)).setCell ⟨b, 10, none⟩ (.int .i64 f.d)) b { v with y := f } := by
  unfold BxB at h ⊢
  simp [World.setCell, h, Array.getElem?_modify] <;> rfl
theorem BxB.set_w {W : World} {b : Nat} {v : Bxv} {f : Fr} (h : BxB W b v) : BxB ((W.setCell ⟨b, 11, none⟩ (.int .i64 f.n)).setCell ⟨b, 12, none⟩ (.int .i64 f.d)) b { v with w := f } := by
  unfold BxB at h ⊢
  simp [World.setCell, h, Array.getElem?_modify] <;> rfl
theorem BxB.set_h {W : World} {b : Nat} {v : Bxv} {f : Fr} (h : BxB W b v) : BxB ((W.setCell ⟨b, 13, none⟩ (.int .i64 f.n)).setCell ⟨b, 14, none⟩ (.int .i64 f.d)) b { v with h := f } := by
  unfold BxB at h ⊢
  simp [World.setCell, h, Array.getElem?_modify] <;> rfl
theorem wp_store_box {ops : Array Oper} {rest : List Oper} {o : Oper} {a : Act} {W : World} {Q : Exit → Act → World → Prop} (hgd : o.guard = none) (x y : Operand) (ho : o.op = .store 44 x y) (b : Nat) (u v : Bxv) (hx : a.eval x = .pointer (some ⟨b, 0, none⟩)) (hy : a.eval y = .agg #[.int .i64 u.nd.kind, .int .i64 u.nd.sign, .int .i64 u.nd.turn, .bool u.nd.mir, .int .i64 u.nd.state, .int .i64 u.nd.mn, .int .i64 u.nd.mx, .int .i64 u.x.n, .int .i64 u.x.d, .int .i64 u.y.n, .int .i64 u.y.d, .int .i64 u.w.n, .int .i64 u.w.d, .int .i64 u.h.n, .int .i64 u.h.d]) (hv : BxB W b v)
    (h : ∀ W' : World, BxB W' b u → (∀ (n0 : Nat) (W0 : World), n0 ≤ b → Below n0 W0 W → Below n0 W0 W') → wpList Tryz.prog ops Q rest (a.put o.dst undef) W') : wpList Tryz.prog ops Q (o :: rest) a W :=
  wpList_plain hgd fun _ hK => wp_store_row _ x y ho b _ hx hy _ _ hv (by kernel_rfl) rfl (by simp [Value.oneCell']) (hK _ _ (h _ (setRow_heap W b _ _ _ _ hv) fun _ _ hn hb => below_setRow hb hn _))
theorem Tryz.underBox : Tryz.prog.underlying 44 = some (Tryz.prog.underlying 44).get! := by kernel_rfl
theorem BxB.range {W : World} {b : Nat} {v : Bxv} (h : BxB W b v) : W.rangeAt b 0 [.int .i64 v.nd.kind, .int .i64 v.nd.sign, .int .i64 v.nd.turn, .bool v.nd.mir, .int .i64 v.nd.state, .int .i64 v.nd.mn, .int .i64 v.nd.mx, .int .i64 v.x.n, .int .i64 v.x.d, .int .i64 v.y.n, .int .i64 v.y.d, .int .i64 v.w.n, .int .i64 v.w.d, .int .i64 v.h.n, .int .i64 v.h.d] := fun j u hj => by
  have e : W.cell? ⟨b, 0 + j, none⟩ = ([.int .i64 v.nd.kind, .int .i64 v.nd.sign, .int .i64 v.nd.turn, .bool v.nd.mir, .int .i64 v.nd.state, .int .i64 v.nd.mn, .int .i64 v.nd.mx, .int .i64 v.x.n, .int .i64 v.x.d, .int .i64 v.y.n, .int .i64 v.y.d, .int .i64 v.w.n, .int .i64 v.w.d, .int .i64 v.h.n, .int .i64 v.h.d] : List Value)[j]? := by
    unfold BxB at h
    simp [World.cell?, h]
  rw [e]
  exact hj
theorem wp_load_box {ops : Array Oper} {rest : List Oper} {o : Oper} {a : Act} {W : World} {Q : Exit → Act → World → Prop} (hgd : o.guard = none) (x : Operand) (ho : o.op = .load 44 x) (b : Nat) (v : Bxv) (hx : a.eval x = .pointer (some ⟨b, 0, none⟩)) (hv : BxB W b v)
    (h : wpList Tryz.prog ops Q rest (a.put o.dst (.agg #[.int .i64 v.nd.kind, .int .i64 v.nd.sign, .int .i64 v.nd.turn, .bool v.nd.mir, .int .i64 v.nd.state, .int .i64 v.nd.mn, .int .i64 v.nd.mx, .int .i64 v.x.n, .int .i64 v.x.d, .int .i64 v.y.n, .int .i64 v.y.d, .int .i64 v.w.n, .int .i64 v.w.d, .int .i64 v.h.n, .int .i64 v.h.d])) W) : wpList Tryz.prog ops Q (o :: rest) a W :=
  wpList_load_mid hgd 44 x ho b 0 hx _ _ hv.range Tryz.underBox (by kernel_rfl) (by kernel_rfl) h
/-- A box on a page: mirrored, if the lines go from right to left. -/
def trnB (way : Int) (b : Bxv) : Bxv := if way % 2 = 0 then { b with x := (b.x.add b.w).neg } else b
def nd0 : Nd := ⟨0, 0, 0, 0, false, 0, 0, 0⟩
def bx0 : Bxv := ⟨nd0, ⟨0, 0⟩, ⟨0, 0⟩, ⟨0, 0⟩, ⟨0, 0⟩⟩
set_option maxRecDepth 100000 in
set_option maxHeartbeats 4000000 in
theorem turned_any (v : Bxv) (way wd : Int) (h1 : 1 ≤ way) (h4 : way ≤ 4) (hs : SumOk v.x v.w) (w : World) :
    Calls Tryz.prog 42 #[.agg #[.int .i64 v.nd.kind, .int .i64 v.nd.sign, .int .i64 v.nd.turn, .bool v.nd.mir, .int .i64 v.nd.state, .int .i64 v.nd.mn, .int .i64 v.nd.mx, .int .i64 v.x.n, .int .i64 v.x.d, .int .i64 v.y.n, .int .i64 v.y.d, .int .i64 v.w.n, .int .i64 v.w.d, .int .i64 v.h.n, .int .i64 v.h.d], .agg #[.int .i64 way, .int .i64 wd]] w fun e w' => e = .returned (.agg #[.int .i64 (trnB way v).nd.kind, .int .i64 (trnB way v).nd.sign, .int .i64 (trnB way v).nd.turn, .bool (trnB way v).nd.mir, .int .i64 (trnB way v).nd.state, .int .i64 (trnB way v).nd.mn, .int .i64 (trnB way v).nd.mx, .int .i64 (trnB way v).x.n, .int .i64 (trnB way v).x.d, .int .i64 (trnB way v).y.n, .int .i64 (trnB way v).y.d, .int .i64 (trnB way v).w.n, .int .i64 (trnB way v).w.d, .int .i64 (trnB way v).h.n, .int .i64 (trnB way v).h.d]) ∧ Below w.heap.size w w' := by
  obtain ⟨w1, hw1⟩ : ∃ w1, w1 = ((w.alloc (.cells #[.int .i64 v.nd.kind, .int .i64 v.nd.sign, .int .i64 v.nd.turn, .bool v.nd.mir, .int .i64 v.nd.state, .int .i64 v.nd.mn, .int .i64 v.nd.mx, .int .i64 v.x.n, .int .i64 v.x.d, .int .i64 v.y.n, .int .i64 v.y.d, .int .i64 v.w.n, .int .i64 v.w.d, .int .i64 v.h.n, .int .i64 v.h.d] 44)).alloc (.cells #[.int .i64 way, .int .i64 wd] 40)).alloc (.cells #[.int .i64 0, .int .i64 0, .int .i64 0, .bool false, .int .i64 0, .int .i64 0, .int .i64 0, .int .i64 0, .int .i64 0, .int .i64 0, .int .i64 0, .int .i64 0, .int .i64 0, .int .i64 0, .int .i64 0] 44) := ⟨_, rfl⟩
  have hb1 : Below w.heap.size w w1 := by rw [hw1]; exact (((Below.refl _ _).alloc (Nat.le_refl _) _).alloc (by simp) _).alloc (by simp; omega) _
  have hv0 : BxB w1 w.heap.size v := by rw [hw1]; exact old_blk (old_blk (nw_blk rfl))
  have hp1 : w1.heap[w.heap.size + 1]? = some (.cells #[.int .i64 way, .int .i64 wd] 40 (0, 0)) := by rw [hw1]; exact old_blk (nw_blk (by simp))
  have hv2 : BxB w1 (w.heap.size + 2) bx0 := by rw [hw1]; exact nw_blk (by simp)
  have HAD := hid (fun W : World => addP_any v.x v.w hs W)
  have hz1 : w1.heap.size = w.heap.size + 3 := by rw [hw1]; simp
  have HW1 := hid hw1; have HB1 := hid hb1; have HV0 := hid hv0; have HV2 := hid hv2; have HZ1 := hid hz1
  obtain ⟨⟨p0, p1⟩, _, _⟩ := res_two (Below.refl _ _) hp1
  have hn := hs.an; have hn2 := hs.bn
  have HSB := hid (frR_abs (n := v.x.n * v.w.d + v.w.n * v.x.d) hs.prods.2.1)
  have HPR := hid hs.prods
  clear hw1 hb1 hv0 hp1 hv2 hs hz1
  have hab : -4611686018427387904 ≤ (v.x.add v.w).n ∧ (v.x.add v.w).n ≤ 4611686018427387904 := by
    have e : (v.x.add v.w).n = (frR (v.x.n * v.w.d + v.w.n * v.x.d) (v.x.d * v.w.d)).n := rfl
    have h1 := HSB.out
    obtain ⟨⟨⟨a1, a2⟩, a3, a4⟩, _⟩ := HPR.out
    rw [e]
    omega
  obtain ⟨f, hf⟩ : ∃ f, f = v.x.add v.w := ⟨_, rfl⟩
  rw [← hf] at HAD hab
  have HF := hid hf
  obtain ⟨f1, f2⟩ := hab
  obtain ⟨y, rfl⟩ : ∃ y : Nat, way = y := ⟨way.toNat, by omega⟩
  clear hf hn hn2 HSB HPR
  by_cases h2 : (y : Int) % 2 = 0
  · have HT := hid (show trnB y v = { v with x := f.neg } from by unfold trnB; rw [if_pos h2, HF.out])
    have e1 : ((y : Int) % 2 == 0) = true := by simpa using h2
    have e2 : (y % 2 == 0) = true := by simp; omega
    clear h2
    go_enter Tryz.func42, Tryz.ntmps42
    go_upto_region 1 with (fail)
    rw [← HW1.out]
    clear HW1
    obtain ⟨B0, hB0⟩ : ∃ B0, B0 = w.heap.size := ⟨_, rfl⟩
    obtain ⟨B1, hB1⟩ : ∃ B1, B1 = B0 + 1 := ⟨_, rfl⟩
    obtain ⟨B2, hB2⟩ : ∃ B2, B2 = B0 + 2 := ⟨_, rfl⟩
    rw [← hB0] at p0 p1 HV0 HV2 HZ1
    rw [← hB1] at p0 p1
    rw [← hB2] at HV2
    rw [← hB0]
    try rw [show B0 + 1 + 1 = B2 by omega]
    try rw [← hB2]
    try rw [← hB1]
    have HB0 := hid hB0; have HBB := hid hB1; have HBC := hid hB2
    clear hB0 hB1 hB2
    have hb0 := HV0.out.cells
    have i7 := hb0.k7; have i8 := hb0.k8; have i11 := hb0.k11; have i12 := hb0.k12
    clear hb0
    go_upto_region 3 with (first | (go_at_call 38; refine (HAD.out _).mono ?_; rintro e w2 ⟨rfl, hb2⟩; have HB2 := hid hb2; clear hb2 p0 p1 i7 i8 i11 i12))
    have HB3 := hid (show Below w1.heap.size w1 (w2.alloc (.cells #[.int .i64 f.n, .int .i64 f.d] 42)) from HB2.out.alloc HB2.out.size _)
    have hf3 : FrB (w2.alloc (.cells #[.int .i64 f.n, .int .i64 f.d] 42)) w2.heap.size f := FrB.new rfl
    obtain ⟨w3, hw3⟩ : ∃ w3, w3 = w2.alloc (.cells #[.int .i64 f.n, .int .i64 f.d] 42) := ⟨_, rfl⟩
    rw [← hw3] at hf3 HB3 ⊢
    obtain ⟨⟨j0, j1⟩, _, _⟩ := hf3.cells
    have HV3 := hid (HV0.out.below HB3.out); have HR3 := hid (HV2.out.below HB3.out)
    have hb3 := HV3.out.cells
    have z7 := hb3.z7; have z8 := hb3.z8; have i7 := hb3.k7; have i8 := hb3.k8
    clear hb3 hf3 hw3
    go_upto_region 4 with (fail)
    have hne : B0 ≠ B2 := by have := HBC.out; omega
    obtain ⟨w4, hw4⟩ : ∃ w4, w4 = (w3.setCell ⟨B0, 7, none⟩ (.int .i64 (-f.n))).setCell ⟨B0, 8, none⟩ (.int .i64 f.d) := ⟨_, rfl⟩
    have HV4 := hid (show BxB w4 B0 { v with x := f.neg } by rw [hw4]; exact HV3.out.set_x (f := f.neg))
    have HR4 := hid (show BxB w4 B2 bx0 by rw [hw4]; exact (HR3.out.far hne).far hne)
    have HB4 := hid (show Below w.heap.size w w4 by rw [hw4]; exact ((HB1.out.trans (HB3.out.mono HB1.out.size)).setCell (by show _ ≤ B0; have := HB0.out; omega) _).setCell (by show _ ≤ B0; have := HB0.out; omega) _)
    rw [← hw4]
    clear hw4 z7 z8 i7 i8 j0 j1
    obtain ⟨u, hu⟩ : ∃ u, u = trnB y v := ⟨_, rfl⟩
    rw [← HT.out, ← hu] at HV4
    have HU := hid hu
    clear HT hu
    have hle : w.heap.size ≤ B2 := by have := HB0.out; have := HBC.out; omega
    go_wp2_with (first | (refine wp_load_box rfl (.tmp 2) rfl B0 u rfl HV4.out ?_) | (refine wp_store_box rfl (.tmp 4) (.tmp 22) rfl B2 u bx0 rfl rfl HR4.out ?_; intro w9 hb9 hl9; have HR9 := hid hb9; have HL9 := hid (hl9 _ _ hle HB4.out); clear hb9 hl9))
    have hre := HR9.out.cells
    exact bodyPost_ret (v := .agg #[.int .i64 u.nd.kind, .int .i64 u.nd.sign, .int .i64 u.nd.turn, .bool u.nd.mir, .int .i64 u.nd.state, .int .i64 u.nd.mn, .int .i64 u.nd.mx, .int .i64 u.x.n, .int .i64 u.x.d, .int .i64 u.y.n, .int .i64 u.y.d, .int .i64 u.w.n, .int .i64 u.w.d, .int .i64 u.h.n, .int .i64 u.h.d]) (by simp [results, Tryz.results42, go_sem, hre.k0, hre.k1, hre.k2, hre.k3, hre.k4, hre.k5, hre.k6, hre.k7, hre.k8, hre.k9, hre.k10, hre.k11, hre.k12, hre.k13, hre.k14]) rfl ⟨by rw [HU.out], HL9.out⟩
  · have HT := hid (show trnB y v = v from by unfold trnB; rw [if_neg h2])
    have e1 : ((y : Int) % 2 == 0) = false := by simpa using h2
    have e2 : (y % 2 == 0) = false := by simp; omega
    clear h2
    go_enter Tryz.func42, Tryz.ntmps42
    go_upto_region 1 with (fail)
    rw [← HW1.out]
    clear HW1
    obtain ⟨B0, hB0⟩ : ∃ B0, B0 = w.heap.size := ⟨_, rfl⟩
    obtain ⟨B1, hB1⟩ : ∃ B1, B1 = B0 + 1 := ⟨_, rfl⟩
    obtain ⟨B2, hB2⟩ : ∃ B2, B2 = B0 + 2 := ⟨_, rfl⟩
    rw [← hB0] at p0 p1 HV0 HV2 HZ1
    rw [← hB1] at p0 p1
    rw [← hB2] at HV2
    rw [← hB0]
    try rw [show B0 + 1 + 1 = B2 by omega]
    try rw [← hB2]
    try rw [← hB1]
    have HB0 := hid hB0; have HBB := hid hB1; have HBC := hid hB2
    clear hB0 hB1 hB2
    have hb0 := HV0.out.cells
    have i7 := hb0.k7; have i8 := hb0.k8; have i11 := hb0.k11; have i12 := hb0.k12
    clear hb0
    go_upto_region 4 with (fail)
    have HV4 := HV0; have HR4 := HV2; have HB4 := HB1
    clear p0 p1 i7 i8 i11 i12
    obtain ⟨u, hu⟩ : ∃ u, u = trnB y v := ⟨_, rfl⟩
    rw [← HT.out, ← hu] at HV4
    have HU := hid hu
    clear HT hu
    have hle : w.heap.size ≤ B2 := by have := HB0.out; have := HBC.out; omega
    go_wp2_with (first | (refine wp_load_box rfl (.tmp 2) rfl B0 u rfl HV4.out ?_) | (refine wp_store_box rfl (.tmp 4) (.tmp 22) rfl B2 u bx0 rfl rfl HR4.out ?_; intro w9 hb9 hl9; have HR9 := hid hb9; have HL9 := hid (hl9 _ _ hle HB4.out); clear hb9 hl9))
    have hre := HR9.out.cells
    exact bodyPost_ret (v := .agg #[.int .i64 u.nd.kind, .int .i64 u.nd.sign, .int .i64 u.nd.turn, .bool u.nd.mir, .int .i64 u.nd.state, .int .i64 u.nd.mn, .int .i64 u.nd.mx, .int .i64 u.x.n, .int .i64 u.x.d, .int .i64 u.y.n, .int .i64 u.y.d, .int .i64 u.w.n, .int .i64 u.w.d, .int .i64 u.h.n, .int .i64 u.h.d]) (by simp [results, Tryz.results42, go_sem, hre.k0, hre.k1, hre.k2, hre.k3, hre.k4, hre.k5, hre.k6, hre.k7, hre.k8, hre.k9, hre.k10, hre.k11, hre.k12, hre.k13, hre.k14]) rfl ⟨by rw [HU.out], HL9.out⟩
end Go.Proofs.YtimblabaeclhpaaGreat

/- PLAIN LAW: the numbers of a box, as the program comes to them. -/
namespace Go.Proofs.YtimblabaeclhpaaGreat
open Go.RowKit
/-- The middle of a line for a group. -/
def midF (s : Fr) (ln cr : Int) : Fr := frR (144 * ln * s.d + 48 * s.d - cr * s.n) (2 * s.d)
def fX0 (rows : Bool) (s : Fr) (c : Int × Int) (cr : Int) : Fr := if rows then whF c.2 else midF s c.1 cr
def fY0 (rows : Bool) (s : Fr) (c : Int × Int) (cr : Int) : Fr := if rows then midF s c.1 cr else whF c.2
/-- A box ahead of the mirror. -/
def rawBox (rows : Bool) (s : Fr) (c : Int × Int) (cr : Int) (n : Nd) (p : Spot) : Bxv :=
  ⟨n, (fX0 rows s c cr).add (s.times (4 * p.x) 4), (fY0 rows s c cr).add (s.times (4 * p.y) 4), s.times (4 * p.w) 4, s.times (4 * p.h) 4⟩
theorem raw_turn {s : Fr} (hs : ScOk s) (way : Int) (rows : Bool) (c : Int × Int) (cr : Int) (n : Nd) (p : Spot) : trnB way (rawBox rows s c cr n p) = boxOf way rows s c cr n p := by
  unfold trnB rawBox boxOf fX0 fY0 midF
  simp only [times_s hs]
  cases rows with
  | true =>
    simp only [if_true, plA_doc hs, plC_doc hs]
    split <;> rfl
  | false =>
    simp only [Bool.false_eq_true, if_false, plA_doc hs, plC_doc hs]
    split <;> rfl
/-- Bounds of a fraction. -/
structure FrS (f : Fr) : Prop where
  d0 : 0 < f.d
  d1 : f.d ≤ 1073741824
  n1 : f.n.natAbs ≤ 1073741824
theorem FrS.sum {a b : Fr} (h : FrS a) (k : FrS b) : SumOk a b := ⟨h.d0, k.d0, h.d1, k.d1, h.n1, k.n1⟩
theorem frs_of {n d : Int} (h0 : 0 < d) (h1 : d ≤ 1073741824) (h2 : -1073741824 ≤ n) (h3 : n ≤ 1073741824) : FrS (frR n d) := by
  have a1 := frR_pos (n := n) h0
  have a2 := frR_le (n := n) h0
  have a3 := frR_abs (n := n) h0
  exact ⟨a1, by omega, by omega⟩
theorem frs_wh {n : Int} (h2 : -1073741824 ≤ n) (h3 : n ≤ 1073741824) : FrS (whF n) := ⟨by show (0 : Int) < 1; omega, by show (1 : Int) ≤ _; omega, by show n.natAbs ≤ _; omega⟩
theorem frs_sc {s : Fr} (hs : ScOk s) : FrS s := ⟨hs.d0, by have := hs.d1; omega, by have := hs.n0; have := hs.nd; have := hs.d1; omega⟩
theorem frs_times {s : Fr} (hs : ScOk s) {v : Int} (v0 : 0 ≤ v) (v1 : v ≤ 26400) : FrS (s.times (4 * v) 4) := by
  rw [times_s hs]
  have h1 := hs.n0; have h2 := hs.nd; have h3 := hs.d1
  have e1 : 0 ≤ v * s.n := Int.mul_nonneg v0 (by omega)
  have e2 : v * s.n ≤ 26400 * 6600 := Int.mul_le_mul v1 (by omega) (by omega) (by omega)
  exact frs_of hs.d0 (by omega) (by omega) (by omega)
theorem mid_bd {s : Fr} (hs : ScOk s) {ln cr : Int} (l0 : 0 ≤ ln) (l1 : ln ≤ 200) (c0 : 0 ≤ cr) (c1 : cr * s.n ≤ 48 * s.d) : FrS (midF s ln cr) := by
  have h := plC_bd hs l0 l1 c0 c1 (Int.le_refl 0) (by omega)
  have h2 := hs.d1
  simp only [Int.mul_zero, Int.zero_mul, Int.add_zero] at h
  unfold midF
  exact frs_of (by have := hs.d0; omega) (by omega) (by omega) (by omega)
/-- The numbers of a group's place. -/
structure MidOk (s : Fr) (ln cr : Int) (gx : Fr) : Prop where
  m1 : SumOk (whF 48) gx
  m2 : FrS ((whF 48).sub gx)
  m3 : SumOk (whF (72 * ln)) (((whF 48).sub gx).times 1 2)
  eq : (whF (72 * ln)).add (((whF 48).sub gx).times 1 2) = midF s ln cr
theorem mid_ok {s : Fr} (hs : ScOk s) {ln cr : Int} (l0 : 0 ≤ ln) (l1 : ln ≤ 200) (c0 : 0 ≤ cr) (c1 : cr * s.n ≤ 48 * s.d) : MidOk s ln cr (frR (cr * s.n) s.d) := by
  have h2 := hs.d1; have hd := hs.d0; have h1 := hs.n0
  have e0 : 0 ≤ cr * s.n := Int.mul_nonneg c0 (by omega)
  have em := mid_prog hs cr
  rw [times_1 hs] at em
  have es : (whF 48).sub (frR (cr * s.n) s.d) = frR (48 * s.d + -(cr * s.n) * 1) (1 * s.d) := by rw [whF_eq, sub_frR (by omega) hd]
  refine ⟨(frs_wh (by omega) (by omega)).sum (frs_of hd (by omega) (by omega) (by omega)), ?_, ?_, ?_⟩
  · rw [es]; exact frs_of (by omega) (by omega) (by omega) (by omega)
  · rw [em]; exact (frs_wh (by omega) (by omega)).sum (frs_of (by omega) (by omega) (by omega) (by omega))
  · rw [em, lin_frR hs]; rfl
/-- The numbers of a box. -/
structure RawOk (rows : Bool) (s : Fr) (c : Int × Int) (cr : Int) (p : Spot) : Prop where
  sx : SumOk (fX0 rows s c cr) (s.times (4 * p.x) 4)
  sy : SumOk (fY0 rows s c cr) (s.times (4 * p.y) 4)
  st : SumOk ((fX0 rows s c cr).add (s.times (4 * p.x) 4)) (s.times (4 * p.w) 4)
  bd : ((0 ≤ p.x ∧ p.x ≤ 26400) ∧ 0 ≤ p.y ∧ p.y ≤ 26400) ∧ (0 ≤ p.w ∧ p.w ≤ 26400) ∧ 0 ≤ p.h ∧ p.h ≤ 26400
theorem raw_ok {P : Int} {ss : List Sg} {l : List Nd} {rows : Bool} (hp : Pln P ss l) {i : Nat} (hi : i < l.length) {c : Int × Int} (l0 : 0 ≤ c.1) (l1 : c.1 ≤ 200) (a0 : 0 ≤ c.2) (a1 : c.2 ≤ 4800) {p : Spot} (h : p ∈ spotsN ss l rows l.length i 0 0) : RawOk rows (gS ss l rows i) c (gCr ss l rows i) p := by
  have hs := gS_ok (rows := rows) hp hi
  have hz := gZ_ok (rows := rows) hp hi
  have hc := gCr_ok (rows := rows) hp hi
  obtain ⟨⟨b1, b2, b3, b4⟩, b5, b6⟩ := spot_bd hp hi h
  have z1 := hz.b1; have z2 := hz.b2
  generalize gS ss l rows i = s at *
  generalize gCr ss l rows i = cr at *
  have hm := mid_bd hs l0 l1 (show 0 ≤ cr by omega) hc.2.2
  have hw := frs_wh (n := c.2) (by omega) (by omega)
  have hx0 : FrS (fX0 rows s c cr) := by unfold fX0; split <;> assumption
  have hy0 : FrS (fY0 rows s c cr) := by unfold fY0; split <;> assumption
  have tx := frs_times hs (v := p.x) b1 (by omega)
  have ty := frs_times hs (v := p.y) b2 (by omega)
  have tw := frs_times hs (v := p.w) (by omega) (by omega)
  refine ⟨hx0.sum tx, hy0.sum ty, ?_, ⟨⟨b1, by omega⟩, b2, by omega⟩, ⟨by omega, by omega⟩, by omega, by omega⟩
  refine FrS.sum ?_ tw
  rw [times_s hs]
  have h2 := hs.d1; have hd := hs.d0
  unfold fX0
  split
  · rw [plA_doc hs]
    have := plA_bd hs a0 a1 b1 (v := p.x) (by omega)
    exact frs_of (by omega) (by omega) (by omega) (by omega)
  · show FrS ((frR (144 * c.1 * s.d + 48 * s.d - cr * s.n) (2 * s.d)).add (frR (p.x * s.n) s.d))
    rw [plC_doc hs]
    have := plC_bd hs l0 l1 (show 0 ≤ cr by omega) hc.2.2 b1 (v := p.x) (by omega)
    exact frs_of (by omega) (by omega) (by omega) (by omega)
/-- The boxes of the first groups. -/
noncomputable def boxJ (ss : List Sg) (l : List Nd) (rows : Bool) (way len : Int) (j : Nat) : List Bxv := ((grpL ss l rows len).take j).flatMap fun g => grpBx ss l rows way g.node g.c
theorem boxJ_0 {ss : List Sg} {l : List Nd} {rows : Bool} {way len : Int} : boxJ ss l rows way len 0 = [] := rfl
theorem boxJ_s {ss : List Sg} {l : List Nd} {rows : Bool} {way len : Int} {j : Nat} (h : j < (grpL ss l rows len).length) : boxJ ss l rows way len (j + 1) = boxJ ss l rows way len j ++ grpBx ss l rows way (grpL ss l rows len)[j].node (grpL ss l rows len)[j].c := by
  unfold boxJ
  rw [take_s h, List.flatMap_append, List.flatMap_cons, List.flatMap_nil, List.append_nil]
theorem boxJ_end {ss : List Sg} {l : List Nd} {rows : Bool} {way len : Int} : boxJ ss l rows way len (grpL ss l rows len).length = layBx ss l rows way len := by
  unfold boxJ
  rw [List.take_length, layBx_grp]
theorem grpL_ok {P : Int} {ss : List Sg} {l : List Nd} {rows : Bool} {len : Int} (hp : Pln P ss l) (h0 : 0 ≤ len) (h1 : len ≤ 4800) {j : Nat} (h : j < (grpL ss l rows len).length) :
    ∃ (k : Nat) (c : Int × Int), (grpL ss l rows len)[j] = ⟨k, gS ss l rows k, c⟩ ∧ k < l.length ∧ (0 ≤ c.1 ∧ c.1 ≤ 200) ∧ 0 ≤ c.2 ∧ c.2 ≤ 4800 := by
  obtain ⟨h2, h3, e⟩ := grpL_get h
  have hk := kidsOf_len (l := l) (node := -1) (by omega)
  have hn := hp.len
  obtain ⟨a1, a2, a3, a4⟩ := stands_ok h0 _ 0 (0, 0) ⟨Int.le_refl _, by simp, Int.le_refl _, by show (0 : Int) ≤ len + 26424; omega⟩ (fun y hy => by
    obtain ⟨i, hi, rfl⟩ := List.mem_map.1 hy
    exact gL_ok hp (grp_mem hi)) _ (show (layS ss l rows len)[j] ∈ layS ss l rows len from List.getElem_mem h3)
  rw [List.length_map] at a2
  exact ⟨_, _, e, grp_mem (List.getElem_mem h2), ⟨a1, by omega⟩, a3, by omega⟩
theorem boxJ_len {P : Int} {ss : List Sg} {l : List Nd} {rows : Bool} {way len : Int} (hp : Pln P ss l) (h0 : 0 ≤ len) (h1 : len ≤ 4800) : ∀ (j : Nat), j ≤ (grpL ss l rows len).length → (boxJ ss l rows way len j).length ≤ 200 * j
  | 0, _ => Nat.le_refl 0
  | j + 1, h => by
    obtain ⟨k, c, e, hk, _⟩ := grpL_ok hp h0 h1 (rows := rows) (j := j) (by omega)
    have ih := boxJ_len (rows := rows) (way := way) hp h0 h1 j (by omega)
    rw [boxJ_s (show j < (grpL ss l rows len).length by omega), List.length_append, e]
    have h2 := spots_len (rows := rows) hp l.length k hk (by omega) 0 0
    have h3 : (grpBx ss l rows way k c).length = (spotsN ss l rows l.length k 0 0).length := by unfold grpBx; rw [List.length_map]
    have h4 : spn l k ≤ 200 := by unfold spn; have := endOf_le hk; have := hp.len; omega
    show _ + (grpBx ss l rows way k c).length ≤ _
    omega
/-- The nodes of a group's spots are nodes of the text. -/
theorem spot_nd {P : Int} {ss : List Sg} {l : List Nd} {rows : Bool} (hp : Pln P ss l) {i : Nat} (hi : i < l.length) {p : Spot} (h : p ∈ spotsN ss l rows l.length i 0 0) : p.node < l.length := by
  have hm : p.node ∈ (spotsN ss l rows l.length i 0 0).map Spot.node := List.mem_map_of_mem h
  rw [spots_nodes hp l.length i hi (by omega)] at hm
  unfold vsn at hm
  have h1 := (List.mem_filter.1 hm).1
  obtain ⟨h2, h3⟩ := List.mem_range'_1.1 h1
  have := endOf_le hi
  have := endOf_gt l i
  omega
end Go.Proofs.YtimblabaeclhpaaGreat
