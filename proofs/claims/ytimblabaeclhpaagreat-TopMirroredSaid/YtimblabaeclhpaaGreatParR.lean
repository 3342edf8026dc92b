/- WALK: parse: it reads items, or catches what the reader panicked with. -/
import Derived.Test.YtimblabaeclhpaaGreatPartR
import Derived.Defers
import Derived.Recover
namespace Go.Proofs.YtimblabaeclhpaaGreat
open Go.RowKit
def wrongV (p : Nat) : Value := .iface 85 (.agg #[.int .i64 (p : Int)])
set_option maxRecDepth 100000 in
set_option maxHeartbeats 2000000 in
theorem catch_idle (b0 b1 b2 : Nat) (w : World) :
    CallsD Tryz.prog 27 #[.pointer (some ⟨b0, 0, none⟩), .pointer (some ⟨b1, 0, none⟩), .pointer (some ⟨b2, 0, none⟩)] .returning w fun e u' w' => e = .returned (.tuple #[]) ∧ u' = .returning ∧ w' = w := by
  refine callsD_of_wpS Tryz.func27 rfl fun c₀ cs hu => ?_
  apply wpS_seq
  apply wpS_region
  simp [wpOpsS, go_sem, recoverD, hu, Tryz.ntmps27, Exit.thenS]
  refine wpS_of_wp ?_
  go_wp2_with fail
  cases c₀
  simp_all [bodyPostS, results, Tryz.results27]
theorem ta_wrong (p : Nat) (W : World) : (Instr.typeAssert (.iface 85 (.agg #[.int .i64 (p : Int)])) 20 85 true).run Tryz.prog W = .ok (.tuple #[.agg #[.int .i64 (p : Int)], .bool true]) W := by kernel_rfl
set_option maxRecDepth 100000 in
set_option maxHeartbeats 2000000 in
theorem catch_wrong (b0 b1 b2 p : Nat) (v0 v1 v2 : Value) (w : World) (h0 : w.heap[b0]? = some (.cells #[v0] 59 (0, 0))) (h1 : w.heap[b1]? = some (.cells #[v1] 3 (0, 0))) (h2 : w.heap[b2]? = some (.cells #[v2] 31 (0, 0))) :
    CallsD Tryz.prog 27 #[.pointer (some ⟨b0, 0, none⟩), .pointer (some ⟨b1, 0, none⟩), .pointer (some ⟨b2, 0, none⟩)] (.panicking [{ v := wrongV p, recovered := false }]) w fun e u' w' => e = .returned (.tuple #[]) ∧ u' = .panicking [{ v := wrongV p, recovered := true }] ∧
      w'.cell? ⟨b0, 0, none⟩ = some (.slice none 0 0) ∧ w'.cell? ⟨b1, 0, none⟩ = some (.int .i64 (p : Int)) ∧ w'.cell? ⟨b2, 0, none⟩ = some (.int .i64 4) ∧ ∀ n a, n ≤ b0 → n ≤ b1 → n ≤ b2 → n ≤ w.heap.size → Below n a w → Below n a w' := by
  have hta := fun W => ta_wrong p W
  refine callsD_of_wpS Tryz.func27 rfl fun c₀ cs hu => ?_
  apply wpS_seq
  apply wpS_region
  unfold wrongV at *
  simp [wpOpsS, go_sem, recoverD, hu, Tryz.ntmps27, Exit.thenS]
  refine wpS_of_wp ?_
  simp only [Array.replicate_succ, Array.replicate_zero, List.push_toArray, List.append_toArray, List.nil_append, List.cons_append, List.setIfInBounds_toArray, List.set_cons_succ, List.set_cons_zero]
  have hb0 : b0 < w.heap.size := lt_of_block h0
  have hb1 : b1 < w.heap.size := lt_of_block h1
  have hb2 : b2 < w.heap.size := lt_of_block h2
  go_upto_region 7 with (fail)
  obtain ⟨w1, hw1⟩ : ∃ W, W = w.alloc (.cells #[.int .i64 (p : Int)] 85) := ⟨_, rfl⟩
  obtain ⟨g, hg⟩ : ∃ g, g = w.heap.size := ⟨_, rfl⟩
  have hg1 : w1.cell? ⟨g, 0, none⟩ = some (.int .i64 (p : Int)) := by rw [hw1, hg]; simp
  have hbl : Below w.heap.size w w1 := by rw [hw1]; exact (Below.refl _ _).alloc (Nat.le_refl _) _
  rw [← hw1, ← hg]
  have HB := hid hbl; have HG0 := hid (show g ≠ b0 by omega)
  have H0 := hid ((hbl.block b0 hb0).trans h0); have H1 := hid ((hbl.block b1 hb1).trans h1); have H2 := hid ((hbl.block b2 hb2).trans h2)
  clear hw1 hbl h0 h1 h2 hb0 hb1 hb2 hg
  refine region_call [0, 1] [2] [3, 4] (fun W => W.cell? ⟨g, 0, none⟩ = some (.int .i64 (p : Int))) (by kernel_rfl) (by kernel_rfl) (fun d _ _ _ _ h => by cases d <;> exact h) (by simpa using hg1) ?_
  apply Exists.intro
  simp only [List.map_cons, List.map_nil, List.getD_cons_zero, List.getD_cons_succ]
  refine ⟨⟨_, Or.inl ⟨by rfl, fun W hW => by go_simp; rfl⟩, .int .i64 (p : Int), Or.inl ⟨by rfl, fun W hW => by simp only [Act.put, List.setIfInBounds_toArray, List.set_cons_zero, List.set_cons_succ]; go_simp⟩, rfl⟩, ?_⟩
  simp only [Act.put, List.setIfInBounds_toArray, List.set_cons_zero, List.set_cons_succ]
  obtain ⟨w2, hw2⟩ : ∃ W, W = w1.drew := ⟨_, rfl⟩
  have hbl : Below w.heap.size w w2 := by rw [hw2]; exact HB.out.drew
  have i0 : w2.heap[b0]? = some (.cells #[v0] 59 (0, 0)) := by rw [hw2]; exact H0.out
  have i1 : w2.heap[b1]? = some (.cells #[v1] 3 (0, 0)) := by rw [hw2]; exact H1.out
  have i2 : w2.heap[b2]? = some (.cells #[v2] 31 (0, 0)) := by rw [hw2]; exact H2.out
  have ig : w2.cell? ⟨g, 0, none⟩ = some (.int .i64 (p : Int)) := by rw [hw2]; simpa using hg1
  rw [← hw2]
  have c0 := cell_of_one i0; have z0 := free_of_one i0; have c1 := cell_of_one i1; have z1 := free_of_one i1; have c2 := cell_of_one i2; have z2 := free_of_one i2
  have HBL := hid hbl; have I0 := hid i0; have I1 := hid i1; have I2 := hid i2; have IG := hid ig
  clear hw2 hbl HB H0 H1 H2 hg1 i0 i1 i2 ig
  refine wpMid_step rfl (fun K hK => ?_)
  go_simp
  refine hK.out _ _ (cell_set_far IG.out (.inl (Ne.symm HG0.out))) ?_
  clear hK K
  have n01 : b0 ≠ b1 := fun e => by subst e; have := I0.out.symm.trans I1.out; injection this with this; injection this with _ h _; exact absurd h (by decide)
  have n02 : b0 ≠ b2 := fun e => by subst e; have := I0.out.symm.trans I2.out; injection this with this; injection this with _ h _; exact absurd h (by decide)
  have n12 : b1 ≠ b2 := fun e => by subst e; have := I1.out.symm.trans I2.out; injection this with this; injection this with _ h _; exact absurd h (by decide)
  have d1 := cell_set_far (g := b0) (k := 0) (v := .slice none 0 0) c1 (.inl n01)
  have d2 := cell_set_far (g := b1) (k := 0) (v := .int .i64 (p : Int)) (cell_set_far (g := b0) (k := 0) (v := .slice none 0 0) c2 (.inl n02)) (.inl n12)
  simp only [wpMid]
  go_wp2_with fail
  have j0 := one_setCell (u := .slice none 0 0) I0.out
  have j1 := one_setCell (u := .int .i64 (p : Int)) ((Below.heap_setCell w2 ⟨b0, 0, none⟩ (.slice none 0 0) b1 (Ne.symm n01)).trans I1.out)
  have j2 := one_setCell (u := .int .i64 4) ((Below.heap_setCell _ ⟨b1, 0, none⟩ (.int .i64 (p : Int)) b2 (Ne.symm n12)).trans ((Below.heap_setCell w2 ⟨b0, 0, none⟩ (.slice none 0 0) b2 (Ne.symm n02)).trans I2.out))
  refine ⟨rfl, _, rfl, .tuple #[], by simp [results, Tryz.results27, go_sem], rfl, rfl, ?_, ?_, ?_, ?_⟩
  · exact cell_set_far (cell_set_far (cell_of_one j0) (.inl (Ne.symm n01))) (.inl (Ne.symm n02))
  · exact cell_set_far (cell_of_one j1) (.inl (Ne.symm n12))
  · exact cell_of_one j2
  · intro n a h1 h2 h3 h4 h5
    exact (((h5.trans (HBL.out.mono h4)).setCell (p := ⟨b0, 0, none⟩) h1 _).setCell (p := ⟨b1, 0, none⟩) h2 _).setCell (p := ⟨b2, 0, none⟩) h3 _
end Go.Proofs.YtimblabaeclhpaaGreat

/- WALK: parse. -/
namespace Go.Proofs.YtimblabaeclhpaaGreat
open Go.RowKit
/-- What parse returns. -/
def ParP (s : ByteArray) (w : World) (e : Ending) (w' : World) : Prop := (match parseP s with
  | .bad q => e = .returned (.tuple #[.slice none 0 0, .int .i64 (q : Int), .int .i64 4])
  | .ok ks _ => ∃ A m c, e = .returned (.tuple #[.slice A m c, .int .i64 0, .int .i64 0]) ∧ Ks 1 w.heap.size [] w' A m c ks) ∧ Below w.heap.size w w'
/-- Three cells of their own. -/
structure Tri (W : World) (b0 b1 b2 : Nat) (v0 v1 v2 : Value) : Prop where
  h0 : W.heap[b0]? = some (.cells #[v0] 59 (0, 0))
  h1 : W.heap[b1]? = some (.cells #[v1] 3 (0, 0))
  h2 : W.heap[b2]? = some (.cells #[v2] 31 (0, 0))
theorem Tri.ne {W : World} {b0 b1 b2 : Nat} {v0 v1 v2 : Value} (h : Tri W b0 b1 b2 v0 v1 v2) : b0 ≠ b1 ∧ b0 ≠ b2 ∧ b1 ≠ b2 := by
  refine ⟨fun e => ?_, fun e => ?_, fun e => ?_⟩
  · subst e; have := h.h0.symm.trans h.h1; injection this with this; injection this with _ h _; exact absurd h (by decide)
  · subst e; have := h.h0.symm.trans h.h2; injection this with this; injection this with _ h _; exact absurd h (by decide)
  · subst e; have := h.h1.symm.trans h.h2; injection this with this; injection this with _ h _; exact absurd h (by decide)
theorem Tri.kp {W W' : World} {b0 b1 b2 rb : Nat} {v0 v1 v2 : Value} (h : Tri W b0 b1 b2 v0 v1 v2) (hk : Kp rb W W') (n0 : b0 ≠ rb) (n1 : b1 ≠ rb) (n2 : b2 ≠ rb) : Tri W' b0 b1 b2 v0 v1 v2 :=
  ⟨(hk.blk (lt_of_block h.h0) n0).trans h.h0, (hk.blk (lt_of_block h.h1) n1).trans h.h1, (hk.blk (lt_of_block h.h2) n2).trans h.h2⟩
theorem Tri.set0 {W : World} {b0 b1 b2 : Nat} {v0 v1 v2 v : Value} (h : Tri W b0 b1 b2 v0 v1 v2) : Tri (W.setCell ⟨b0, 0, none⟩ v) b0 b1 b2 v v1 v2 :=
  ⟨one_setCell h.h0, (Below.heap_setCell _ _ _ _ (Ne.symm h.ne.1)).trans h.h1, (Below.heap_setCell _ _ _ _ (Ne.symm h.ne.2.1)).trans h.h2⟩
theorem Tri.set1 {W : World} {b0 b1 b2 : Nat} {v0 v1 v2 v : Value} (h : Tri W b0 b1 b2 v0 v1 v2) : Tri (W.setCell ⟨b1, 0, none⟩ v) b0 b1 b2 v0 v v2 :=
  ⟨(Below.heap_setCell _ _ _ _ h.ne.1).trans h.h0, one_setCell h.h1, (Below.heap_setCell _ _ _ _ (Ne.symm h.ne.2.2)).trans h.h2⟩
theorem Tri.set2 {W : World} {b0 b1 b2 : Nat} {v0 v1 v2 v : Value} (h : Tri W b0 b1 b2 v0 v1 v2) : Tri (W.setCell ⟨b2, 0, none⟩ v) b0 b1 b2 v0 v1 v :=
  ⟨(Below.heap_setCell _ _ _ _ h.ne.2.1).trans h.h0, (Below.heap_setCell _ _ _ _ h.ne.2.2).trans h.h1, one_setCell h.h2⟩
theorem Ks.nil {N : Int} {n0 : Nat} {Lx : List Nat} {W : World} : Ks N n0 Lx W none 0 0 [] := ⟨[], rfl, rfl, World.ownsRow_nil _ _ _ _, fun g e => (by cases e), by rw [ItL]⟩
set_option maxRecDepth 100000 in
set_option maxHeartbeats 4000000 in
theorem parse_any (s : ByteArray) (hs : s.size ≤ 1000000) (w : World) :
    Calls Tryz.prog 14 #[.iface 78 (.agg #[]), .string s] w (ParP s w) := by
  have hmf : ∀ (fn : Fn) (first cap : Array Value) (w : World), (Instr.makeFunc fn first cap).run Tryz.prog w = .ok (.func fn first cap) w := fun _ _ _ _ => rfl
  have hme : ∀ W : World, (method 296 78 (.agg #[]) "ostracon/code.read").run Tryz.prog W = .ok (96, .agg #[]) W := fun _ => by kernel_rfl
  obtain ⟨b0, hb0⟩ : ∃ b, b = w.heap.size := ⟨_, rfl⟩
  obtain ⟨b1, hb1⟩ : ∃ b, b = w.heap.size + 1 := ⟨_, rfl⟩
  obtain ⟨b2, hb2⟩ : ∃ b, b = w.heap.size + 2 := ⟨_, rfl⟩
  obtain ⟨rb, hrb⟩ : ∃ b, b = w.heap.size + 3 := ⟨_, rfl⟩
  obtain ⟨w3, hw3⟩ : ∃ W, W = ((w.alloc (.cells #[.slice none 0 0] 59)).alloc (.cells #[.int .i64 0] 3)).alloc (.cells #[.int .i64 0] 31) := ⟨_, rfl⟩
  obtain ⟨w4, hw4⟩ : ∃ W, W = w3.alloc (.cells #[.iface 78 (.agg #[]), .string s, .int .i64 0] 88) := ⟨_, rfl⟩
  have hz3 : w3.heap.size = w.heap.size + 3 := by rw [hw3]; simp
  have hb3 : Below w.heap.size w w3 := by rw [hw3]; exact ((((Below.refl _ _).alloc (Nat.le_refl _) _).alloc (by simp) _).alloc (by simp; omega) _)
  have hb4 : Below w.heap.size w w4 := by rw [hw4]; exact hb3.alloc (by omega) _
  have i0 : w4.heap[b0]? = some (.cells #[.slice none 0 0] 59 (0, 0)) := by rw [hw4, hw3, hb0]; exact oldB (oldB (oldB (nwB rfl)))
  have i1 : w4.heap[b1]? = some (.cells #[.int .i64 0] 3 (0, 0)) := by rw [hw4, hw3, hb1]; exact oldB (oldB (nwB (by simp)))
  have i2 : w4.heap[b2]? = some (.cells #[.int .i64 0] 31 (0, 0)) := by rw [hw4, hw3, hb2]; exact oldB (nwB (by simp))
  have hR : Rdr w4 rb s 0 := by rw [hw4, hrb]; exact nwB hz3.symm
  have HB4 := hid hb4; have I0 := hid i0; have I1 := hid i1; have I2 := hid i2; have HR := hid hR
  have HW3 := hid hw3; have HW4 := hid hw4; have HB0 := hid hb0; have HB1 := hid hb1; have HB2 := hid hb2; have HRB := hid hrb; have HZ3 := hid hz3
  clear hb4 i0 i1 i2 hR hw3 hw4 hb3
  go_enter_defers Tryz.func14, Tryz.ntmps14
  go_upto_region 1 with (fail)
  simp only [Nat.add_assoc, Nat.reduceAdd]
  rw [← HW3.out, ← HB2.out, ← HB1.out, ← HB0.out]
  have HRZ := hid (show rb = w3.heap.size by rw [hz3, hrb])
  clear hb0 hb1 hb2 hrb hz3
  go_upto_region 3 with (fail)
  rw [← HW4.out, ← HRZ.out]
  clear HW4 HW3
  by_cases he : s.toList.isEmpty = true
  · have hp : parseP s = .ok [] 0 := by unfold parseP; rw [if_pos he]
    have HPP := hid hp
    have c0 := cell_of_one I0.out; have z0 := free_of_one I0.out; have c1 := cell_of_one I1.out; have z1 := free_of_one I1.out; have c2 := cell_of_one I2.out; have z2 := free_of_one I2.out
    clear hp hs
    have HT := hid (Tri.mk I0.out I1.out I2.out)
    have T1 := hid (HT.out.set0 (v := .slice none 0 0))
    have T2 := hid (T1.out.set1 (v := .int .i64 0))
    have T3 := hid (T2.out.set2 (v := .int .i64 0))
    have d1 := cell_of_one T1.out.h1; have y1 := free_of_one T1.out.h1
    have d2 := cell_of_one T2.out.h2; have y2 := free_of_one T2.out.h2
    go_wp2_with fail
    refine leaves_cons (f := 27) (args := #[.pointer (some ⟨b0, 0, none⟩), .pointer (some ⟨b1, 0, none⟩), .pointer (some ⟨b2, 0, none⟩)]) (by simp) (by simp [go_sem]) ?_
    refine (catch_idle b0 b1 b2 _).mono ?_
    rintro e u' w'' ⟨rfl, rfl, rfl⟩
    have t0 := cell_of_one T3.out.h0; have t1 := cell_of_one T3.out.h1; have t2 := cell_of_one T3.out.h2
    refine ⟨.tuple #[.slice none 0 0, .int .i64 0, .int .i64 0], by simp [results, Tryz.results14, go_sem, t0, t1, t2], ?_⟩
    unfold ParP
    rw [HPP.out]
    exact ⟨⟨none, 0, 0, rfl, Ks.nil⟩, ((HB4.out.setCell (p := ⟨b0, 0, none⟩) (by have := HB0.out; simp; omega) _).setCell (p := ⟨b1, 0, none⟩) (by have := HB1.out; simp; omega) _).setCell (p := ⟨b2, 0, none⟩) (by have := HB2.out; simp; omega) _⟩
  · have hp : parseP s = match readP s 0 with | .bad e => .bad e | .ok l q => if q < s.size then .bad q else .ok l q := by unfold parseP; rw [if_neg he]; cases readP s 0 <;> rfl
    have hne : s.toList.isEmpty = false := by simpa using he
    have HPP := hid hp
    have HT := hid (Tri.mk I0.out I1.out I2.out)
    have hrd := read_anyR rb s 0 w4 HR.out (Nat.zero_le _) hs
    have HN0 := hid (show b0 ≠ rb by have := HB0.out; have := HRB.out; omega)
    have HN1 := hid (show b1 ≠ rb by have := HB1.out; have := HRB.out; omega)
    have HN2 := hid (show b2 ≠ rb by have := HB2.out; have := HRB.out; omega)
    have HF := hid fun (q : Nat) (W : World) (h : Rdr W rb s q) => fail_any rb s q W h
    have HL4 := hid (show rb < w4.heap.size from HR.out.lt)
    have HG0 := hid (show w.heap.size ≤ b0 by have := HB0.out; omega); have HG1 := hid (show w.heap.size ≤ b1 by have := HB1.out; omega); have HG2 := hid (show w.heap.size ≤ b2 by have := HB2.out; omega); have HGR := hid (show w.heap.size ≤ rb by have := HRB.out; omega)
    have HS := hid hs
    have hce : ∀ W : World, (callFunc 96 #[.agg #[], .pointer (some ⟨rb, 0, none⟩)]).run Tryz.prog W = .ok (.enter 96 #[.agg #[], .pointer (some ⟨rb, 0, none⟩)]) W := fun _ => by kernel_rfl
    unfold RdP at hrd
    clear he hp hs
    cases hd : readP s 0 with
    | bad q =>
      rw [hd] at hrd
      have HX := hid (show parseP s = .bad q by rw [HPP.out, hd])
      clear hd
      go_wp2_with (first | (refine hrd.mono ?_; rintro e w5 ⟨⟨rfl, h5⟩, k5⟩; unfold wrongP; have H5 := hid h5; have K5 := hid k5; clear h5 k5))
      have T5 := HT.out.kp K5.out HN0.out HN1.out HN2.out
      have hb5 : Below w.heap.size w w5 := HB4.out.trans (K5.out.to_below HGR.out HL4.out)
      refine leaves_cons (f := 27) (args := #[.pointer (some ⟨b0, 0, none⟩), .pointer (some ⟨b1, 0, none⟩), .pointer (some ⟨b2, 0, none⟩)]) (by simp) (by simp [go_sem]) ?_
      refine (catch_wrong b0 b1 b2 q _ _ _ w5 T5.h0 T5.h1 T5.h2).mono ?_
      rintro e u' w'' ⟨rfl, rfl, t0, t1, t2, hbel⟩
      refine ⟨.tuple #[.slice none 0 0, .int .i64 (q : Int), .int .i64 4], by simp [results, Tryz.results14, go_sem, t0, t1, t2], ?_⟩
      unfold ParP
      rw [HX.out]
      exact ⟨rfl, hbel w.heap.size w HG0.out HG1.out HG2.out hb5.size hb5⟩
    | ok ks q =>
      rw [hd] at hrd
      have HX0 := hid (show parseP s = if q < s.size then .bad q else .ok ks q by rw [HPP.out, hd])
      clear hd
      go_upto_region 6 with (first | (refine hrd.mono ?_; rintro e w5 ⟨⟨A, m, c, rfl, hk5, h5⟩, k5⟩; have H5 := hid h5; have K5 := hid k5; have S5 := hid hk5; have T5 := hid (HT.out.kp k5 HN0.out HN1.out HN2.out); have c0 := cell_of_one (HT.out.kp k5 HN0.out HN1.out HN2.out).h0; have z0 := free_of_one (HT.out.kp k5 HN0.out HN1.out HN2.out).h0; clear h5 k5 hk5))
      obtain ⟨w6, hw6⟩ : ∃ W, W = w5.setCell ⟨b0, 0, none⟩ (.slice A m c) := ⟨_, rfl⟩
      have hb5 : Below w.heap.size w w5 := HB4.out.trans (K5.out.to_below HGR.out HL4.out)
      have H6 := hid (show Rdr w6 rb s q by rw [hw6]; exact H5.out.far HN0.out)
      have T6 := hid (show Tri w6 b0 b1 b2 (.slice A m c) (.int .i64 0) (.int .i64 0) by rw [hw6]; exact T5.out.set0)
      have B6 := hid (show Below w.heap.size w w6 by rw [hw6]; exact hb5.setCell (p := ⟨b0, 0, none⟩) HG0.out _)
      have hl0 : b0 < w4.heap.size := lt_of_block HT.out.h0
      have hl1 : b1 < w4.heap.size := lt_of_block HT.out.h1
      have hl2 : b2 < w4.heap.size := lt_of_block HT.out.h2
      have HL0 := hid hl0; have HL1 := hid hl1; have HL2 := hid hl2
      have S6 := hid (show Ks 1 w4.heap.size [] w6 A m c ks by rw [hw6]; exact S5.out.grown ((Kp.refl b0 w5).set _) fun r e => by injection e with e; subst e; exact .inl HL0.out)
      have cr := H6.out.cells.c2
      rw [← hw6]
      clear hw6 hb5 H5 T5 S5 K5 c0 z0 hl0 hl1 hl2
      by_cases hq : q < s.size
      · have HX := hid (show parseP s = .bad q by rw [HX0.out, if_pos hq])
        clear HX0
        go_wp2_with (first | (go_at_call 28; refine (HF.out _ _ H6.out).mono ?_; rintro e w7 ⟨rfl, rfl⟩; unfold wrongP))
        refine leaves_cons (f := 27) (args := #[.pointer (some ⟨b0, 0, none⟩), .pointer (some ⟨b1, 0, none⟩), .pointer (some ⟨b2, 0, none⟩)]) (by simp) (by simp [go_sem]) ?_
        refine (catch_wrong b0 b1 b2 q _ _ _ _ T6.out.h0 T6.out.h1 T6.out.h2).mono ?_
        rintro e u' w'' ⟨rfl, rfl, t0, t1, t2, hbel⟩
        refine ⟨.tuple #[.slice none 0 0, .int .i64 (q : Int), .int .i64 4], by simp [results, Tryz.results14, go_sem, t0, t1, t2], ?_⟩
        unfold ParP
        rw [HX.out]
        exact ⟨rfl, hbel w.heap.size w HG0.out HG1.out HG2.out B6.out.size B6.out⟩
      · have HX := hid (show parseP s = .ok ks q by rw [HX0.out, if_neg hq])
        have e1 : decide (q < s.size) = false := decide_eq_false hq
        have T1 := hid (T6.out.set0 (v := .slice A m c))
        have T2 := hid (T1.out.set1 (v := .int .i64 0))
        have T3 := hid (T2.out.set2 (v := .int .i64 0))
        have c0 := cell_of_one T6.out.h0; have z0 := free_of_one T6.out.h0
        have d1 := cell_of_one T1.out.h1; have y1 := free_of_one T1.out.h1
        have d2 := cell_of_one T2.out.h2; have y2 := free_of_one T2.out.h2
        clear HX0 hq
        go_wp2_with fail
        refine leaves_cons (f := 27) (args := #[.pointer (some ⟨b0, 0, none⟩), .pointer (some ⟨b1, 0, none⟩), .pointer (some ⟨b2, 0, none⟩)]) (by simp) (by simp [go_sem]) ?_
        refine (catch_idle b0 b1 b2 _).mono ?_
        rintro e u' w'' ⟨rfl, rfl, rfl⟩
        have t0 := cell_of_one T3.out.h0; have t1 := cell_of_one T3.out.h1; have t2 := cell_of_one T3.out.h2
        refine ⟨.tuple #[.slice A m c, .int .i64 0, .int .i64 0], by simp [results, Tryz.results14, go_sem, t0, t1, t2], ?_⟩
        unfold ParP
        rw [HX.out]
        refine ⟨⟨A, m, c, rfl, ?_⟩, ((B6.out.setCell (p := ⟨b0, 0, none⟩) HG0.out _).setCell (p := ⟨b1, 0, none⟩) HG1.out _).setCell (p := ⟨b2, 0, none⟩) HG2.out _⟩
        exact (((S6.out.grown ((Kp.refl b0 _).set _) (fun r e => by injection e with e; subst e; exact .inl HL0.out)).grown ((Kp.refl b1 _).set _) (fun r e => by injection e with e; subst e; exact .inl HL1.out)).grown ((Kp.refl b2 _).set _) (fun r e => by injection e with e; subst e; exact .inl HL2.out)).base HB4.out.size
end Go.Proofs.YtimblabaeclhpaaGreat

/- WALK: coderOf of the line code. -/
namespace Go.Proofs.YtimblabaeclhpaaGreat
open Go.RowKit
set_option maxRecDepth 100000 in
set_option maxHeartbeats 2000000 in
theorem coder_any (w : World) : Calls Tryz.prog 12 #[.int .i64 1] w fun e w' => e = .returned (.tuple #[.iface 78 (.agg #[]), .int .i64 0]) ∧ w' = w := by
  go_enter Tryz.func12, Tryz.ntmps12
  go_wp2_with fail
  go_ret2
  exact ⟨rfl, rfl⟩
end Go.Proofs.YtimblabaeclhpaaGreat
