/- groups.family. -/
import Derived.Test.YtimblabaeclhpaaGreatOwn
import Derived.Test.YtimblabaeclhpaaGreatKids
namespace Go.Proofs.YtimblabaeclhpaaGreat
open Go.RowKit Go.Shelf
attribute [local go_sem] Oper.semAt_some
def famIs (l : List Nd) (i : Nat) (par : Int) : Prop :=
  if kd l i = 2 then 2 ≤ (kidsOf l (i : Int)).length ∧ (kidsOf l (i : Int)).length ≤ 6 ∧ cntK l (kidsOf l (i : Int)) 2 = 0 else
  if kd l i = 3 then 2 ≤ (kidsOf l (i : Int)).length ∧ (kidsOf l (i : Int)).length ≤ 6 ∧ cntK l (kidsOf l (i : Int)) 3 = 0 else
  if kd l i = 4 then (kidsOf l (i : Int)).length = 2 ∧ cntK l (kidsOf l (i : Int)) 1 = 2 else
  if kd l i = 5 then 1 ≤ (kidsOf l (i : Int)).length ∧ (kidsOf l (i : Int)).length ≤ 6 ∧ cntK l (kidsOf l (i : Int)) 2 = 0 ∧ dep l i = 0 ∧ (cntK l (kidsOf l (i : Int)) 7 = 0 ∨ (kidsOf l (i : Int)).length = 1) else
  if kd l i = 7 then 2 ≤ (kidsOf l (i : Int)).length ∧ (kidsOf l (i : Int)).length ≤ 6 ∧ cntK l (kidsOf l (i : Int)) 2 = 0 ∧ (dep l i = 0 ∨ par = 5) else True
theorem famP_iff {l : List Nd} {i : Nat} {par : Int} : famP l i (kidsOf l (i : Int)) par ↔ (kd l i = 5 ∨ cntK l (kidsOf l (i : Int)) 7 = 0) ∧ famIs l i par := by
  unfold famP famIs
  constructor
  · rintro ⟨p1, p2, p3, p4, p5, p6⟩
    refine ⟨p1, ?_⟩
    by_cases h2 : kd l i = 2
    · rw [if_pos h2]; exact p2 h2
    rw [if_neg h2]
    by_cases h3 : kd l i = 3
    · rw [if_pos h3]; exact p3 h3
    rw [if_neg h3]
    by_cases h4 : kd l i = 4
    · rw [if_pos h4]; exact p4 h4
    rw [if_neg h4]
    by_cases h5 : kd l i = 5
    · rw [if_pos h5]; exact p5 h5
    rw [if_neg h5]
    by_cases h7 : kd l i = 7
    · rw [if_pos h7]; exact p6 h7
    rw [if_neg h7]
    trivial
  · rintro ⟨p1, p2⟩
    refine ⟨p1, fun h => ?_, fun h => ?_, fun h => ?_, fun h => ?_, fun h => ?_⟩
    · rw [if_pos h] at p2; exact p2
    · rw [if_neg (by omega), if_pos h] at p2; exact p2
    · rw [if_neg (by omega), if_neg (by omega), if_pos h] at p2; exact p2
    · rw [if_neg (by omega), if_neg (by omega), if_neg (by omega), if_pos h] at p2; exact p2
    · rw [if_neg (by omega), if_neg (by omega), if_neg (by omega), if_neg (by omega), if_pos h] at p2; exact p2
theorem cntK_s (l : List Nd) (pre : List Nat) (x : Nat) (k : Int) : cntK l (pre ++ [x]) k = cntK l pre k + if kd l x = k then 1 else 0 := by
  unfold cntK
  rw [List.filter_append, List.length_append]
  by_cases h : kd l x = k <;> simp [h]
theorem cntK_le (l : List Nd) (pre : List Nat) (k : Int) : cntK l pre k ≤ pre.length := List.length_filter_le _ _
/-- What family's loop keeps: its boxes and its five counts. -/
structure FM (A : Option Addr) (n c i : Nat) (nd : Nd) (w : World) (m g b a h : Nat) (W : World) : Prop where
  l_ : W.heap[w.heap.size]? = some (.cells #[.slice A n c] 28 (0, 0))
  r_ : W.heap[w.heap.size + 1]? = some (.cells #[.bool false] 4 (0, 0))
  n_ : W.heap[w.heap.size + 2]? = some (.cells #[.int .i64 nd.kind, .int .i64 nd.depth, .int .i64 nd.sign, .int .i64 nd.turn, .bool nd.mir, .int .i64 nd.state, .int .i64 nd.mn, .int .i64 nd.mx] 67 (0, 0))
  m_ : W.heap[w.heap.size + 3]? = some (.cells #[.int .i64 m] 3 (0, 0))
  g_ : W.heap[w.heap.size + 4]? = some (.cells #[.int .i64 g] 3 (0, 0))
  b_ : W.heap[w.heap.size + 5]? = some (.cells #[.int .i64 b] 3 (0, 0))
  a_ : W.heap[w.heap.size + 6]? = some (.cells #[.int .i64 a] 3 (0, 0))
  h_ : W.heap[w.heap.size + 7]? = some (.cells #[.int .i64 h] 3 (0, 0))
  x_ : W.heap[w.heap.size + 8]? = some (.cells #[.slice A n c] 28 (0, 0))
  y_ : W.heap[w.heap.size + 9]? = some (.cells #[.int .i64 (i : Int)] 3 (0, 0))
  bel : Below w.heap.size w W
theorem FM.grown {A : Option Addr} {n c i : Nat} {nd : Nd} {w : World} {m g b a h : Nat} {W W' : World} {row : Option Nat} (f : FM A n c i nd w m g b a h W) (hg : W.grownBy W' row) (hr : ∀ r, row = some r → w.heap.size + 10 ≤ r) : FM A n c i nd w m g b a h W' := by
  have hz := lt_of_block f.y_
  have k : ∀ (j : Nat) (o : Obj), j < w.heap.size + 10 → W.heap[j]? = some o → W'.heap[j]? = some o := fun j o hj ho => (hg.block j (lt_of_block ho) fun e => by have := hr _ e.symm; omega).trans ho
  exact ⟨k _ _ (by omega) f.l_, k _ _ (by omega) f.r_, k _ _ (by omega) f.n_, k _ _ (by omega) f.m_, k _ _ (by omega) f.g_, k _ _ (by omega) f.b_, k _ _ (by omega) f.a_, k _ _ (by omega) f.h_, k _ _ (by omega) f.x_, k _ _ (by omega) f.y_,
    f.bel.grown hg (by omega) fun r e => by have := hr r e; omega⟩
theorem FM.stands {A : Option Addr} {n c i : Nat} {nd : Nd} {w : World} {m g b a h : Nat} {P : Prop} : Stands (w.heap.size + 10) (fun W => FM A n c i nd w m g b a h W ∧ P) :=
  Stands.of_grown fun _ _ _ ⟨f, p⟩ hg hr => ⟨f.grown hg fun r e => (hr r e).1, p⟩
section
variable {A : Option Addr} {n c i : Nat} {nd : Nd} {w : World} {m g b a h : Nat} {W : World}
theorem FM.setM (f : FM A n c i nd w m g b a h W) {z : Int} (m' : Nat) (hzz : z = m') : FM A n c i nd w m' g b a h (W.setCell ⟨w.heap.size + 3, 0, none⟩ (.int .i64 z)) := by
  subst hzz
  have k : ∀ (j : Nat), j ≠ w.heap.size + 3 → (W.setCell ⟨w.heap.size + 3, 0, none⟩ (.int .i64 m')).heap[j]? = W.heap[j]? := fun j hj => Below.heap_setCell _ _ _ _ hj
  exact ⟨(k _ (by omega)).trans f.l_, (k _ (by omega)).trans f.r_, (k _ (by omega)).trans f.n_, one_setCell f.m_, (k _ (by omega)).trans f.g_, (k _ (by omega)).trans f.b_, (k _ (by omega)).trans f.a_, (k _ (by omega)).trans f.h_, (k _ (by omega)).trans f.x_, (k _ (by omega)).trans f.y_, f.bel.setCell (by simp) _⟩
theorem FM.setG (f : FM A n c i nd w m g b a h W) {z : Int} (m' : Nat) (hzz : z = m') : FM A n c i nd w m m' b a h (W.setCell ⟨w.heap.size + 4, 0, none⟩ (.int .i64 z)) := by
  subst hzz
  have k : ∀ (j : Nat), j ≠ w.heap.size + 4 → (W.setCell ⟨w.heap.size + 4, 0, none⟩ (.int .i64 m')).heap[j]? = W.heap[j]? := fun j hj => Below.heap_setCell _ _ _ _ hj
  exact ⟨(k _ (by omega)).trans f.l_, (k _ (by omega)).trans f.r_, (k _ (by omega)).trans f.n_, (k _ (by omega)).trans f.m_, one_setCell f.g_, (k _ (by omega)).trans f.b_, (k _ (by omega)).trans f.a_, (k _ (by omega)).trans f.h_, (k _ (by omega)).trans f.x_, (k _ (by omega)).trans f.y_, f.bel.setCell (by simp) _⟩
theorem FM.setB (f : FM A n c i nd w m g b a h W) {z : Int} (m' : Nat) (hzz : z = m') : FM A n c i nd w m g m' a h (W.setCell ⟨w.heap.size + 5, 0, none⟩ (.int .i64 z)) := by
  subst hzz
  have k : ∀ (j : Nat), j ≠ w.heap.size + 5 → (W.setCell ⟨w.heap.size + 5, 0, none⟩ (.int .i64 m')).heap[j]? = W.heap[j]? := fun j hj => Below.heap_setCell _ _ _ _ hj
  exact ⟨(k _ (by omega)).trans f.l_, (k _ (by omega)).trans f.r_, (k _ (by omega)).trans f.n_, (k _ (by omega)).trans f.m_, (k _ (by omega)).trans f.g_, one_setCell f.b_, (k _ (by omega)).trans f.a_, (k _ (by omega)).trans f.h_, (k _ (by omega)).trans f.x_, (k _ (by omega)).trans f.y_, f.bel.setCell (by simp) _⟩
theorem FM.setA (f : FM A n c i nd w m g b a h W) {z : Int} (m' : Nat) (hzz : z = m') : FM A n c i nd w m g b m' h (W.setCell ⟨w.heap.size + 6, 0, none⟩ (.int .i64 z)) := by
  subst hzz
  have k : ∀ (j : Nat), j ≠ w.heap.size + 6 → (W.setCell ⟨w.heap.size + 6, 0, none⟩ (.int .i64 m')).heap[j]? = W.heap[j]? := fun j hj => Below.heap_setCell _ _ _ _ hj
  exact ⟨(k _ (by omega)).trans f.l_, (k _ (by omega)).trans f.r_, (k _ (by omega)).trans f.n_, (k _ (by omega)).trans f.m_, (k _ (by omega)).trans f.g_, (k _ (by omega)).trans f.b_, one_setCell f.a_, (k _ (by omega)).trans f.h_, (k _ (by omega)).trans f.x_, (k _ (by omega)).trans f.y_, f.bel.setCell (by simp) _⟩
theorem FM.setH (f : FM A n c i nd w m g b a h W) {z : Int} (m' : Nat) (hzz : z = m') : FM A n c i nd w m g b a m' (W.setCell ⟨w.heap.size + 7, 0, none⟩ (.int .i64 z)) := by
  subst hzz
  have k : ∀ (j : Nat), j ≠ w.heap.size + 7 → (W.setCell ⟨w.heap.size + 7, 0, none⟩ (.int .i64 m')).heap[j]? = W.heap[j]? := fun j hj => Below.heap_setCell _ _ _ _ hj
  exact ⟨(k _ (by omega)).trans f.l_, (k _ (by omega)).trans f.r_, (k _ (by omega)).trans f.n_, (k _ (by omega)).trans f.m_, (k _ (by omega)).trans f.g_, (k _ (by omega)).trans f.b_, (k _ (by omega)).trans f.a_, one_setCell f.h_, (k _ (by omega)).trans f.x_, (k _ (by omega)).trans f.y_, f.bel.setCell (by simp) _⟩
theorem FM.kk {l : List Nd} (f : FM A l.length c i nd w m g b a h W) (r : Nds w w.heap.size A l) : KK l A c i w.heap.size (w.heap.size + 8) (w.heap.size + 9) W := ⟨f.x_, f.y_, r.below f.bel⟩
end
/-- The counts behind some kids. -/
def FI (l : List Nd) (A : Option Addr) (c i : Nat) (nd : Nd) (w : World) (s : List Nat) (W : World) : Prop :=
  FM A l.length c i nd w s.length (cntK l s 1) (cntK l s 2) (cntK l s 3) (cntK l s 7) W ∧ (kd l i = 5 ∨ cntK l s 7 = 0)
/-- An Honour was found where none may be: the answer lies in its box. -/
structure FX (l : List Nd) (i : Nat) (w : World) (s : List Nat) (W : World) : Prop where
  r_ : W.heap[w.heap.size + 1]? = some (.cells #[.bool false] 4 (0, 0))
  bel : Below w.heap.size w W
  no : ¬ kd l i = 5 ∧ cntK l s 7 ≠ 0
theorem FX.stands {l : List Nd} {i : Nat} {w : World} {s : List Nat} : Stands (w.heap.size + 10) (FX l i w s) :=
  Stands.of_grown fun W W' row f hg hr => ⟨(hg.block _ (lt_of_block f.r_) fun e => by have := (hr _ e.symm).1; omega).trans f.r_, f.bel.grown hg (by have := lt_of_block f.r_; omega) fun r e => by have := (hr r e).1; omega, f.no⟩
theorem Stands.and_ {D : Nat} {I : World → Prop} (h : Stands D I) (P : Prop) : Stands D (fun W => P ∧ I W) where
  draw := fun W q hi => ⟨hi.1, h.draw W q hi.2⟩
  alloc := fun W o hi => ⟨hi.1, h.alloc W o hi.2⟩
  put := fun W l o o' hi a b c => ⟨hi.1, h.put W l o o' hi.2 a b c⟩
/-- A function that answers whether P, and leaves what is there. -/
def BoolIs (P : Prop) (w : World) (e : Ending) (w' : World) : Prop := (∃ r : Bool, e = .returned (.bool r) ∧ (r = true ↔ P)) ∧ Below w.heap.size w w'
theorem BoolIs.get {P : Prop} {w : World} {e : Ending} {w' : World} (h : BoolIs P w e w') {r : Bool} (hr : r = true ↔ P) : e = .returned (.bool r) ∧ Below w.heap.size w w' := by
  obtain ⟨⟨r', rfl, h2⟩, hb⟩ := h
  obtain rfl : r' = r := Bool.eq_iff_iff.2 (h2.trans hr.symm)
  exact ⟨rfl, hb⟩
theorem putObj_cell {W : World} {D b : Nat} {o' : Obj} {v : Value} (h : W.cell? ⟨b, 0, none⟩ = some v) (hne : D ≠ b) : (W.putObj D o').cell? ⟨b, 0, none⟩ = some v :=
  (World.cell?_of_block (a := ⟨b, 0, none⟩) (World.putObj_heap_other (fun e => hne e.symm))).trans h
end Go.Proofs.YtimblabaeclhpaaGreat

/- WALK: groups.family. -/
namespace Go.Proofs.YtimblabaeclhpaaGreat
open Go.RowKit Go.Shelf
attribute [local go_sem] Oper.semAt_some
theorem heap_new {w : World} {o : Obj} {n : Nat} (hn : n = w.heap.size) : (w.alloc o).heap[n]? = some o := by subst hn; exact heap_alloc_new w o
theorem heap_at {w : World} {o x : Obj} {k : Nat} (h : w.heap[k]? = some x) : (w.alloc o).heap[k]? = some x := (Below.heap_alloc _ _ _ (lt_of_block h)).trans h
theorem fam_results {tmps : Array Value} {W' : World} {B : Nat} {X : Bool} (h6 : tmps.getD 6 undef = .pointer (some ⟨B, 0, none⟩)) (hc : W'.cell? ⟨B, 0, none⟩ = some (.bool X)) : (results Tryz.f31 tmps).run Tryz.prog W' = .ok (.bool X) W' := by
  rw [Array.getD_eq_getD_getElem?] at h6
  simp [results, Tryz.results31, go_sem, h6, hc]
set_option maxRecDepth 100000 in
set_option maxHeartbeats 4000000 in
theorem family_any (l : List Nd) (i : Nat) (par : Int) (hi : i < l.length) (hl : l.length ≤ 1000000) (A : Option Addr) (c : Nat) (w : World) (r0 : Nds w w.heap.size A l) :
    Calls Tryz.prog 31 #[.slice A l.length c, .int .i64 (i : Int), .int .i64 par] w (BoolIs (famP l i (kidsOf l (i : Int)) par) w) := by
  refine (callsIn_wide (n := 8)).1 ?_
  have hnode : (i : Int) < l.length := by omega
  have hlen := kidsOf_len hnode
  have hseq := kids_seq l (i : Int) hnode (by omega) hl A c w.heap.size (w.heap.size + 8) (w.heap.size + 9) 7
  have hmem := fun x (h : x ∈ kidsOf l (i : Int)) => kidsOf_mem (l := l) (node := (i : Int)) (by omega) hnode h
  obtain ⟨b, o, hA, hb, hc⟩ := r0.at (by omega)
  have hx := hc i hi
  have hnd := kd_at hi
  have hdd := dep_at hi
  have hki := famP_iff (l := l) (i := i) (par := par)
  obtain ⟨nd, hndd⟩ : ∃ nd, nd = l[i]'hi := ⟨_, rfl⟩
  rw [← hndd] at hx hnd hdd
  have d1 := hx.kind; have d2 := hx.depth; have d3 := hx.sign; have d4 := hx.turn; have d5 := hx.mir; have d6 := hx.state; have d7 := hx.mn; have d8 := hx.mx
  have HR0 := hid r0; have HX := hid hx; have HC := hid hc; have HND := hid hnd; have HDD := hid hdd; have HM := hid hmem; have HSEQ := hid hseq; have HKI := hid hki
  obtain ⟨n, hn⟩ : ∃ n, n = l.length := ⟨_, rfl⟩
  have hin : (i : Int) < (n : Int) := by omega
  have HN := hid hn
  subst hA
  rw [← hn] at hl hlen ⊢
  clear hx hnd hdd hc hmem hseq hki r0 hn hndd hnode
  obtain ⟨k, dp, sg, tn, mi, st, mn, mx⟩ := nd
  simp only [] at d1 d2 d3 d4 d5 d6 d7 d8
  refine callsIn_of_wp_marks Tryz.func31 rfl trivial ?_ rfl
  simp only [Tryz.ntmps31, List.size_toArray, List.length_cons, List.length_nil, Nat.reduceAdd, Nat.reduceSub, Array.replicate_succ, Array.replicate_zero, List.push_toArray, List.append_toArray, List.nil_append, List.cons_append]
  have hfw : ∀ f, Fence.wide.fn f := fun _ => trivial
  have hfd : Fence.wide.depth = none := rfl
  have hdd : ∀ k : Nat, (Fence.wide.depth.isSome = true → 1 ≤ k) := fun k h => by cases h
  have HKA := hid fun W => callsIn_wide (n := 7) |>.2 (kids_any (some ⟨b, o, none⟩) n c (i : Int) W)
  gi_wp2_with (first | (gi_at_call 55; refine (HKA.out _).mono ?_; rintro e w5 ⟨rfl, rfl⟩))
  simp only [Nat.add_assoc, Nat.reduceAdd]
  obtain ⟨W9, hW9⟩ : ∃ W9, W9 = (((((((((w.alloc (.cells #[.slice (some ⟨b, o, none⟩) n c] 28)).alloc (.cells #[.bool false] 4)).alloc (.cells #[.int .i64 k, .int .i64 dp, .int .i64 sg, .int .i64 tn, .bool mi, .int .i64 st, .int .i64 mn, .int .i64 mx] 67)).alloc (.cells #[.int .i64 0] 3)).alloc (.cells #[.int .i64 0] 3)).alloc (.cells #[.int .i64 0] 3)).alloc (.cells #[.int .i64 0] 3)).alloc (.cells #[.int .i64 0] 3)).alloc (.cells #[.slice (some ⟨b, o, none⟩) n c] 28)).alloc (.cells #[.int .i64 (i : Int)] 3) := ⟨_, rfl⟩
  rw [← hW9]
  have hsz : W9.heap.size = w.heap.size + 10 := by rw [hW9]; simp
  have hFI : FI l (some ⟨b, o, none⟩) c i ⟨k, dp, sg, tn, mi, st, mn, mx⟩ w [] W9 := by
    refine ⟨⟨?_, ?_, ?_, ?_, ?_, ?_, ?_, ?_, ?_, ?_, ?_⟩, .inr rfl⟩
    all_goals try rw [← HN.out]
    all_goals rw [hW9]
    case refine_11 =>
      exact (((((((((((Below.refl _ _).alloc (Nat.le_refl _) _).alloc (by simp) _).alloc (by simp; omega) _).alloc (by simp; omega) _).alloc (by simp; omega) _).alloc (by simp; omega) _).alloc (by simp; omega) _).alloc (by simp; omega) _).alloc (by simp; omega) _).alloc (by simp; omega) _)
    all_goals repeat (first | (refine heap_new ?_; (simp; done)) | refine heap_at ?_)
  have HFI := hid hFI
  have HW9 := hid hW9
  clear hFI hW9 d1 d2 d3 d4 d5 d6 d7 d8
  have hK1 : ∀ s W, FI l (some ⟨b, o, none⟩) c i ⟨k, dp, sg, tn, mi, st, mn, mx⟩ w s W → KK l (some ⟨b, o, none⟩) c (i : Int) w.heap.size (w.heap.size + 8) (w.heap.size + 9) W := fun s W h => FM.kk h.1 HR0.out
  obtain ⟨xs, hxs⟩ : ∃ xs, xs = kidsOf l (i : Int) := ⟨_, rfl⟩
  have HXS := hid hxs
  rw [← hxs] at hlen HSEQ HM
  have hseq := HSEQ.out
  clear hxs
  refine range_draws rfl (by omega) (gf := 72) (lb := #[.pointer (some ⟨w.heap.size + 8, 0, none⟩), .pointer (some ⟨w.heap.size + 9, 0, none⟩)]) rfl trivial (enters_of Tryz.func72 (by kernel_rfl) rfl) hseq (fun _ => rfl)
    (fun s W => FI l (some ⟨b, o, none⟩) c i ⟨k, dp, sg, tn, mi, st, mn, mx⟩ w s W) (fun cd s W => cd = .ret ∧ FX l i w s W) (fun s => by rw [hsz]; exact FM.stands) (fun cd s => by rw [hsz]; exact FX.stands.and_ _) hK1 HFI.out
    (fun x => { tmps := #[.slice (some ⟨b, o, none⟩) n c, .int .i64 (i : Int), .int .i64 par, .pointer (some ⟨w.heap.size, 0, none⟩), undef, undef, .pointer (some ⟨w.heap.size + 1, 0, none⟩), .pointer (some ⟨w.heap.size + 2, 0, none⟩), .pointer (some ⟨w.heap.size + 3, 0, none⟩), .pointer (some ⟨w.heap.size + 4, 0, none⟩), .pointer (some ⟨w.heap.size + 5, 0, none⟩), .pointer (some ⟨w.heap.size + 6, 0, none⟩), .pointer (some ⟨w.heap.size + 7, 0, none⟩), .int .i64 (x : Int), .slice (some ⟨b, o, none⟩) n c, .int .i64 (i : Int), .pointer (some ⟨b, o + i * 8, none⟩), .agg #[.int .i64 k, .int .i64 dp, .int .i64 sg, .int .i64 tn, .bool mi, .int .i64 st, .int .i64 mn, .int .i64 mx], .slice (some ⟨b, o, none⟩) n c, .int .i64 (i : Int), .func (.func 72) #[] #[.pointer (some ⟨w.heap.size + 8, 0, none⟩), .pointer (some ⟨w.heap.size + 9, 0, none⟩)], .int .i64 (x : Int), undef, undef, undef, undef, undef, undef, undef, undef, undef, undef, undef, undef, undef, undef, undef, undef, undef, undef, undef, undef, undef, undef, undef, undef, undef, undef, undef, undef, undef, undef, undef, undef, undef, undef, undef, undef, undef, undef, undef, undef, undef, undef, undef, undef, undef, undef, undef, undef, undef, undef, undef, undef, undef, undef, undef, undef, undef, undef, undef, undef, undef, undef, undef, undef, undef, undef, undef, undef, undef, undef, undef, undef, undef, undef, undef, undef, undef, undef, undef, undef, undef, undef, undef, undef, undef, undef, undef, undef, undef, undef, undef, undef, undef, undef, undef, undef, undef, undef, undef, undef, undef, undef, undef, undef, undef, undef], defers := [] }) ?assign ?body ?done ?stop
  case assign =>
    intro lid x W K hK
    gi_wp2
    exact hK
  case body =>
    rintro lid pre x W ⟨hf, h5⟩ hpx hz
    have hmx := HM.out x (hpx.subset (List.mem_append_right _ (List.mem_singleton.2 rfl)))
    have hxl : x < l.length := hmx.2
    have hq : (x : Int) < (n : Int) := by rw [HN.out]; omega
    have hpl : pre.length + 1 ≤ 1000000 := by
      have := hpx.length_le
      simp at this
      omega
    have hkx := ((HC.out x hxl).below hf.bel hb).kind
    rw [← kd_at hxl] at hkx
    have c1 := cntK_s l pre x 1; have c2 := cntK_s l pre x 2; have c3 := cntK_s l pre x 3; have c7 := cntK_s l pre x 7
    have b1 := cntK_le l pre 1; have b2 := cntK_le l pre 2; have b3 := cntK_le l pre 3; have b7 := cntK_le l pre 7
    have p0 := cell_of_one hf.l_; have pm := cell_of_one hf.m_; have pg := cell_of_one hf.g_; have pb := cell_of_one hf.b_; have pa := cell_of_one hf.a_; have ph := cell_of_one hf.h_
    have zm := free_of_one hf.m_; have zg := free_of_one hf.g_; have zb := free_of_one hf.b_; have za := free_of_one hf.a_; have zh := free_of_one hf.h_
    have pr := cell_of_one hf.r_; have zr := free_of_one hf.r_
    have pk : W.cell? ⟨w.heap.size + 2, 0, none⟩ = some (.int .i64 k) := by simp [World.cell?, hf.n_]
    have hs := lt_of_block hf.y_
    rw [← HN.out] at p0
    have hki : kd l i = k := HND.out
    have hlen2 : (pre ++ [x]).length = pre.length + 1 := by simp
    have HP := hid (show ∀ m g b2 a h, FM (some ⟨b, o, none⟩) l.length c i ⟨k, dp, sg, tn, mi, st, mn, mx⟩ w m g b2 a h W → True from fun _ _ _ _ _ _ => trivial)
    have HF := hid hf; have H5 := hid h5; have HL2 := hid hlen2; have HKI := hid hki
    generalize hkk : kd l x = kx at hkx c1 c2 c3 c7
    generalize cntK l pre 1 = g at c1 b1 pg HF
    generalize cntK l pre 2 = bs at c2 b2 pb HF
    generalize cntK l pre 3 = ab at c3 b3 pa HF
    generalize cntK l pre 7 = hs7 at c7 b7 ph HF H5
    generalize pre.length = m at hpl b1 b2 b3 b7 pm HF HL2
    have HC1 := hid c1; have HC2 := hid c2; have HC3 := hid c3; have HC7 := hid c7
    clear c1 c2 c3 c7 hmx hf h5 hlen2 hki hpx hz hkk HP
    have KO := hid fun (z1 z2 : Value) (k1 k2 : Nat) => (KeepsOthers.setCell W ⟨w.heap.size + k1, 0, none⟩ z1).trans (KeepsOthers.setCell (W.setCell ⟨w.heap.size + k1, 0, none⟩ z1) ⟨w.heap.size + k2, 0, none⟩ z2)
    have KO1 := hid fun (z1 : Value) (k1 : Nat) => KeepsOthers.setCell W ⟨w.heap.size + k1, 0, none⟩ z1
    by_cases k1 : kx = 1
    · subst k1
      have E1 : Hid (cntK l (pre ++ [x]) 1 = g + 1) := by rw [HC1.out, if_pos rfl]; exact hid rfl
      have E2 : Hid (cntK l (pre ++ [x]) 2 = bs) := by rw [HC2.out, if_neg (by omega)]; exact hid rfl
      have E3 : Hid (cntK l (pre ++ [x]) 3 = ab) := by rw [HC3.out, if_neg (by omega)]; exact hid rfl
      have E7 : Hid (cntK l (pre ++ [x]) 7 = hs7) := by rw [HC7.out, if_neg (by omega)]; exact hid rfl
      clear HC1 HC2 HC3 HC7
      gi_wp2
      refine ⟨KO.out _ _ _ _, trivial, ?_⟩
      show FI l _ c i _ w (pre ++ [x]) _
      unfold FI
      rw [HL2.out, E1.out, E2.out, E3.out, E7.out]
      exact ⟨(HF.out.setM (m + 1) (by omega)).setG (g + 1) (by omega), H5.out⟩
    · have e1 : (kx == 1) = false := by simpa using k1
      by_cases k2 : kx = 2
      · subst k2
        have E1 : Hid (cntK l (pre ++ [x]) 1 = g) := by rw [HC1.out, if_neg (by omega)]; exact hid rfl
        have E2 : Hid (cntK l (pre ++ [x]) 2 = bs + 1) := by rw [HC2.out, if_pos rfl]; exact hid rfl
        have E3 : Hid (cntK l (pre ++ [x]) 3 = ab) := by rw [HC3.out, if_neg (by omega)]; exact hid rfl
        have E7 : Hid (cntK l (pre ++ [x]) 7 = hs7) := by rw [HC7.out, if_neg (by omega)]; exact hid rfl
        clear HC1 HC2 HC3 HC7 k1
        gi_wp2
        refine ⟨KO.out _ _ _ _, trivial, ?_⟩
        show FI l _ c i _ w (pre ++ [x]) _
        unfold FI
        rw [HL2.out, E1.out, E2.out, E3.out, E7.out]
        exact ⟨(HF.out.setM (m + 1) (by omega)).setB (bs + 1) (by omega), H5.out⟩
      · have e2 : (kx == 2) = false := by simpa using k2
        by_cases k3 : kx = 3
        · subst k3
          have E1 : Hid (cntK l (pre ++ [x]) 1 = g) := by rw [HC1.out, if_neg (by omega)]; exact hid rfl
          have E2 : Hid (cntK l (pre ++ [x]) 2 = bs) := by rw [HC2.out, if_neg (by omega)]; exact hid rfl
          have E3 : Hid (cntK l (pre ++ [x]) 3 = ab + 1) := by rw [HC3.out, if_pos rfl]; exact hid rfl
          have E7 : Hid (cntK l (pre ++ [x]) 7 = hs7) := by rw [HC7.out, if_neg (by omega)]; exact hid rfl
          clear HC1 HC2 HC3 HC7 k1 k2
          gi_wp2
          refine ⟨KO.out _ _ _ _, trivial, ?_⟩
          show FI l _ c i _ w (pre ++ [x]) _
          unfold FI
          rw [HL2.out, E1.out, E2.out, E3.out, E7.out]
          exact ⟨(HF.out.setM (m + 1) (by omega)).setA (ab + 1) (by omega), H5.out⟩
        · have e3 : (kx == 3) = false := by simpa using k3
          by_cases k7 : kx = 7
          · subst k7
            have E1 : Hid (cntK l (pre ++ [x]) 1 = g) := by rw [HC1.out, if_neg (by omega)]; exact hid rfl
            have E2 : Hid (cntK l (pre ++ [x]) 2 = bs) := by rw [HC2.out, if_neg (by omega)]; exact hid rfl
            have E3 : Hid (cntK l (pre ++ [x]) 3 = ab) := by rw [HC3.out, if_neg (by omega)]; exact hid rfl
            have E7 : Hid (cntK l (pre ++ [x]) 7 = hs7 + 1) := by rw [HC7.out, if_pos rfl]; exact hid rfl
            clear HC1 HC2 HC3 HC7 k1 k2 k3
            by_cases h5 : k = 5
            · have f5 : (k != 5) = false := by simp [h5]
              have h55 : kd l i = 5 := by rw [HKI.out]; exact h5
              have H55 := hid h55
              clear h5 h55
              gi_wp2
              refine ⟨KO.out _ _ _ _, trivial, ?_⟩
              show FI l _ c i _ w (pre ++ [x]) _
              unfold FI
              rw [HL2.out, E1.out, E2.out, E3.out, E7.out]
              exact ⟨(HF.out.setM (m + 1) (by omega)).setH (hs7 + 1) (by omega), .inl H55.out⟩
            · have f5 : (k != 5) = true := by simp [h5]
              have h55 : ¬ kd l i = 5 := by rw [HKI.out]; exact h5
              have H55 := hid h55
              clear h5 h55
              gi_wp2
              have hf2 := (HF.out.setM (m + 1) (z := (m : Int) + 1) (by omega)).setH (hs7 + 1) (z := (hs7 : Int) + 1) (by omega)
              exact ⟨(KO.out _ _ _ _).trans (KeepsOthers.setCell _ _ _), rfl, one_setCell hf2.r_, hf2.bel.setCell (by simp) _, H55.out, by rw [E7.out]; omega⟩
          · have e7 : (kx == 7) = false := by simpa using k7
            have E1 : Hid (cntK l (pre ++ [x]) 1 = g) := by rw [HC1.out, if_neg (by omega)]; exact hid rfl
            have E2 : Hid (cntK l (pre ++ [x]) 2 = bs) := by rw [HC2.out, if_neg (by omega)]; exact hid rfl
            have E3 : Hid (cntK l (pre ++ [x]) 3 = ab) := by rw [HC3.out, if_neg (by omega)]; exact hid rfl
            have E7 : Hid (cntK l (pre ++ [x]) 7 = hs7) := by rw [HC7.out, if_neg (by omega)]; exact hid rfl
            clear HC1 HC2 HC3 HC7 k1 k2 k3 k7
            gi_wp2
            refine ⟨KO1.out _ _, trivial, ?_⟩
            show FI l _ c i _ w (pre ++ [x]) _
            unfold FI
            rw [HL2.out, E1.out, E2.out, E3.out, E7.out]
            exact ⟨HF.out.setM (m + 1) (by omega), H5.out⟩
  case done =>
    rintro D W hD ⟨hf, h5⟩ hK
    have pm := cell_of_one hf.m_; have pg := cell_of_one hf.g_; have pb := cell_of_one hf.b_; have pa := cell_of_one hf.a_; have ph := cell_of_one hf.h_
    have pr := cell_of_one hf.r_; have zr := free_of_one hf.r_
    have pk : W.cell? ⟨w.heap.size + 2, 0, none⟩ = some (.int .i64 k) := by simp [World.cell?, hf.n_]
    have pd : W.cell? ⟨w.heap.size + 2, 1, none⟩ = some (.int .i64 dp) := by simp [World.cell?, hf.n_]
    have hfam := HKI.out
    have hD2 : w.heap.size + 10 ≤ D := by rw [← hsz]; exact hD
    unfold famIs at hfam
    rw [HND.out, HDD.out, ← HXS.out] at hfam
    have hfm : famP l i xs par ↔ _ := hfam.trans ⟨fun h => h.2, fun h => ⟨by rw [← HND.out]; exact h5, h⟩⟩
    have b1 := cntK_le l xs 1; have b2 := cntK_le l xs 2; have b3 := cntK_le l xs 3; have b7 := cntK_le l xs 7
    have HF := hid hf
    generalize cntK l xs 1 = g at b1 pg HF hfm
    generalize cntK l xs 2 = bs at b2 pb HF hfm
    generalize cntK l xs 3 = ab at b3 pa HF hfm
    generalize cntK l xs 7 = hs7 at b7 ph HF hfm
    generalize xs.length = m at hlen b1 b2 b3 b7 pm HF hfm
    have HKD : Hid (∀ (v : Value), (W.setCell ⟨w.heap.size + 1, 0, none⟩ v).heap[D]? = some (.deferred (some []))) := fun v => (Below.heap_setCell _ _ _ _ (by simp; omega)).trans hK
    clear hf h5 hfam hD
    rw [HXS.out] at hfm
    have HFM := hid hfm
    have HDD2 := hid hD2
    clear hfm hK hD2
    have HCC : Hid (∀ v : Bool, ((W.setCell ⟨w.heap.size + 1, 0, none⟩ (.bool v)).putObj D (.deferred none)).cell? ⟨w.heap.size + 1, 0, none⟩ = some (.bool v)) := fun v => putObj_cell (cell_of_one (one_setCell HF.out.r_)) (by have := HDD2.out; omega)
    have HBB : Hid (∀ v : Bool, Below w.heap.size w ((W.setCell ⟨w.heap.size + 1, 0, none⟩ (.bool v)).putObj D (.deferred none))) := fun v => (HF.out.bel.setCell (by simp) _).grown (grownBy_putObj' _ _ _) (by have := lt_of_block HF.out.y_; simp [World.setCell]; omega) (fun r e => by cases e; have := HDD2.out; omega)
    by_cases k2 : k = 2
    · have hfm := HFM.out
      rw [if_pos k2] at hfm
      have HG := hid hfm
      clear hfm HFM
      subst k2
      gi_wp2
      all_goals
        refine ⟨by simp, .inl ⟨_, _, rfl, run_takeDeferred (HKD.out _), ?_⟩⟩
        refine ⟨_, fam_results rfl (HCC.out _), ⟨_, rfl, ?_⟩, HBB.out _⟩
        refine Iff.trans ?_ HG.out.symm
        simp only [beq_iff_eq, Bool.false_eq_true, false_iff]
        try omega
    · have e2 : (k == 2) = false := by simpa using k2
      by_cases k3 : k = 3
      · have hfm := HFM.out
        rw [if_neg k2, if_pos k3] at hfm
        have HG := hid hfm
        clear hfm HFM
        subst k3
        gi_wp2
        all_goals
          refine ⟨by simp, .inl ⟨_, _, rfl, run_takeDeferred (HKD.out _), ?_⟩⟩
          refine ⟨_, fam_results rfl (HCC.out _), ⟨_, rfl, ?_⟩, HBB.out _⟩
          refine Iff.trans ?_ HG.out.symm
          simp only [beq_iff_eq, Bool.false_eq_true, false_iff]
          try omega
      · have e3 : (k == 3) = false := by simpa using k3
        by_cases k4 : k = 4
        · have hfm := HFM.out
          rw [if_neg k2, if_neg k3, if_pos k4] at hfm
          have HG := hid hfm
          clear hfm HFM
          subst k4
          gi_wp2
          all_goals
            refine ⟨by simp, .inl ⟨_, _, rfl, run_takeDeferred (HKD.out _), ?_⟩⟩
            refine ⟨_, fam_results rfl (HCC.out _), ⟨_, rfl, ?_⟩, HBB.out _⟩
            refine Iff.trans ?_ HG.out.symm
            simp only [beq_iff_eq, Bool.false_eq_true, false_iff]
            try omega
        · have e4 : (k == 4) = false := by simpa using k4
          by_cases k5 : k = 5
          · have hfm := HFM.out
            rw [if_neg k2, if_neg k3, if_neg k4, if_pos k5] at hfm
            have HG := hid hfm
            clear hfm HFM
            subst k5
            gi_wp2
            all_goals
              refine ⟨by simp, .inl ⟨_, _, rfl, run_takeDeferred (HKD.out _), ?_⟩⟩
              refine ⟨_, fam_results rfl (HCC.out _), ⟨_, rfl, ?_⟩, HBB.out _⟩
              refine Iff.trans ?_ HG.out.symm
              simp only [Bool.or_eq_true, beq_iff_eq, Bool.false_eq_true, false_iff, true_iff]
              try omega
          · have e5 : (k == 5) = false := by simpa using k5
            by_cases k7 : k = 7
            · have hfm := HFM.out
              rw [if_neg k2, if_neg k3, if_neg k4, if_neg k5, if_pos k7] at hfm
              have HG := hid hfm
              clear hfm HFM
              subst k7
              gi_wp2
              all_goals
                refine ⟨by simp, .inl ⟨_, _, rfl, run_takeDeferred (HKD.out _), ?_⟩⟩
                refine ⟨_, fam_results rfl (HCC.out _), ⟨_, rfl, ?_⟩, HBB.out _⟩
                refine Iff.trans ?_ HG.out.symm
                simp only [Bool.or_eq_true, beq_iff_eq, Bool.false_eq_true, false_iff, true_iff]
                try omega
            · have e7 : (k == 7) = false := by simpa using k7
              have hfm := HFM.out
              rw [if_neg k2, if_neg k3, if_neg k4, if_neg k5, if_neg k7] at hfm
              have HG := hid hfm
              clear hfm HFM k2 k3 k4 k5 k7
              gi_wp2
              all_goals
                refine ⟨by simp, .inl ⟨_, _, rfl, run_takeDeferred (HKD.out _), ?_⟩⟩
                refine ⟨_, fam_results rfl (HCC.out _), ⟨_, rfl, ?_⟩, HBB.out _⟩
                refine Iff.trans ?_ HG.out.symm
                simp only []
                try omega
  case stop =>
    rintro D cd pre W hD hpx ⟨rfl, hx⟩ hK
    have hD2 : w.heap.size + 10 ≤ D := by rw [← hsz]; exact hD
    have hno : ¬ famP l i (kidsOf l (i : Int)) par := fun h => by
      have h2 := (HKI.out.1 h).1
      rcases h2 with h2 | h2
      · exact hx.no.1 h2
      · rw [← HXS.out] at h2
        exact hx.no.2 (cntK_zero.2 fun j hj => cntK_zero.1 h2 j (hpx.subset hj))
    have HNO := hid hno
    have HR := hid (putObj_cell (D := D) (o' := .deferred none) (cell_of_one hx.r_) (by omega))
    have HB := hid (hx.bel.grown (grownBy_putObj' W D (.deferred none)) (by have := lt_of_block hx.r_; omega) (fun r e => by cases e; omega))
    have HK := hid hK
    clear hno hx hpx hK
    gi_wp2
    refine ⟨by simp, .inl ⟨_, _, rfl, run_takeDeferred HK.out, ?_⟩⟩
    exact ⟨_, fam_results rfl HR.out, ⟨_, rfl, iff_of_false (by simp) HNO.out⟩, HB.out⟩
end Go.Proofs.YtimblabaeclhpaaGreat
