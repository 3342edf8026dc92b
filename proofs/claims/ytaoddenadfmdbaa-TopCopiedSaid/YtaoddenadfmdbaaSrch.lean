/- BASE: the keys of the map of positions. -/
import Derived.Test.YtaoddenadfmdbaaRightW
import Derived.DeepKeys4
import Derived.Maps.OwnSet
import Derived.Test.YtaoddenadfmdbaaCall
import Derived.Deep.Cut
import Derived.Deep.CutBlock
import Derived.Test.YtaoddenadfmdbaaEdL
import Derived.ArgAppend
namespace Go.Proofs.Ytaoddenadfmdbaa
open Go.RowKit Go.Maps
theorem lit64 {k : Nat} (h : k ≤ 1000000) : (Lit.int .i64 (k : Int)).wf = true := by
  have e1 : IntKind.i64.min = -9223372036854775808 := by decide
  have e2 : IntKind.i64.max = 9223372036854775807 := by decide
  show (decide (IntKind.i64.min ≤ (k : Int)) && decide ((k : Int) ≤ IntKind.i64.max)) = true
  rw [e1, e2, Bool.and_eq_true, decide_eq_true_eq, decide_eq_true_eq]
  omega
/-- What the key of a position reads as. -/
def pkey (i k : Nat) : Lit := .string (keyBytes [.int .i64 (i : Int), .int .i64 (k : Int)])
theorem row_laidK : laidOutB Try.prog = true := by kernel_rfl
theorem lawP : Keyed Try.prog 98 := Keyed.of_law (deep_law_laid row_laidK (m := 2) (by omega) (of_decide_eq_true (by kernel_rfl)) (by kernel_rfl) (by rw [Try.underlying98]))
theorem int_lits (m : Nat) {a : Nat} (ha : a ≤ 1000000) : Try.prog.keyLits (m + 1) 3 [.int .i64 (a : Int)] = some [.int .i64 (a : Int)] := by
  unfold Program.keyLits
  simp [Try.underlying3, lit64 ha]
theorem pos_lits (m : Nat) {i k : Nat} (hi : i ≤ 1000000) (hk : k ≤ 1000000) : Try.prog.keyLits (m + 1 + 1) 98 [.int .i64 (i : Int), .int .i64 (k : Int)] = some [.int .i64 (i : Int), .int .i64 (k : Int)] := by
  have e1 : Try.prog.cellsOf 98 = 2 := by kernel_rfl
  have e2 : Try.prog.cellsOf 3 = 1 := by kernel_rfl
  unfold Program.keyLits
  simp [Try.underlying98, e1, e2, int_lits m hi, int_lits m hk]
theorem pos_key {i k : Nat} (hi : i ≤ 1000000) (hk : k ≤ 1000000) : keyOf Try.prog 98 (.agg #[.int .i64 (i : Int), .int .i64 (k : Int)]) = some (pkey i k) := by
  unfold keyOf
  rw [Try.underlying98]
  have e0 : Try.prog.keyType 98 = true := by kernel_rfl
  have e1 : Try.prog.cellsOf 98 = 2 := by kernel_rfl
  have e3 : (Value.agg #[.int .i64 (i : Int), .int .i64 (k : Int)]).formed Try.prog 98 = true := by simp [Value.formed, Try.underlying98, e1]
  obtain ⟨m, hm⟩ : ∃ m, Try.prog.types.size = m + 1 := ⟨Try.prog.types.size - 1, by have : 0 < Try.prog.types.size := of_decide_eq_true (by kernel_rfl); omega⟩
  simp only [e0, e3, Bool.and_self, if_true, hm]
  have := pos_lits m hi hk
  simp only [Value.cells]
  rw [this]
  rfl
theorem pkey_inj {i k i' k' : Nat} (hi : i ≤ 1000000) (hk : k ≤ 1000000) (hi' : i' ≤ 1000000) (hk' : k' ≤ 1000000) (e : pkey i k = pkey i' k') : i = i' ∧ k = k' := by
  have h1 := pos_key hi hk
  have h2 := pos_key hi' hk'
  rw [← e] at h2
  have h3 := (deep_law_laid row_laidK (m := 2) (k := 98) (by omega) (of_decide_eq_true (by kernel_rfl)) (by kernel_rfl) (by rw [Try.underlying98])).inj h1 h2
  injection h3 with h3
  have h4 := congrArg Array.toList h3
  simp only [List.cons.injEq, Value.int.injEq, and_true, true_and] at h4
  omega
theorem zeroI' (w : World) : (zeroValue 3).run Try.prog w = .ok (.int .i64 0) w := by kernel_rfl
/-- The map from positions to numbers: those of the list are in it. -/
structure IdxOk (cs : List Cl) (ps : List (Nat × Nat)) (D : DataW Unit) : Prop where
  map : Maps.IsMap D
  at_ : ∀ x (hx : x < ps.length), D.atKey (pkey ps[x].1 ps[x].2) (.lit (.int .i64 0)) = .lit (.int .i64 (x : Int))
theorem IdxOk.nil (cs : List Cl) : IdxOk cs [] (.map []) := ⟨⟨_, rfl⟩, fun x hx => by simp at hx⟩
theorem IdxOk.add {cs : List Cl} {ps : List (Nat × Nat)} {D : DataW Unit} (h : IdxOk cs ps D) {p : Nat × Nat} (hp : p ∉ ps) (hb : ∀ q ∈ ps, q.1 ≤ 1000000 ∧ q.2 ≤ 1000000) (hb2 : p.1 ≤ 1000000 ∧ p.2 ≤ 1000000) : IdxOk cs (ps ++ [p]) (D.put (pkey p.1 p.2) (.lit (.int .i64 (ps.length : Int)))) := by
  refine ⟨?_, fun x hx => ?_⟩
  · obtain ⟨es, rfl⟩ := h.map
    exact ⟨_, rfl⟩
  · rw [List.length_append, List.length_singleton] at hx
    by_cases e : x = ps.length
    · subst e
      rw [List.getElem_append_right (Nat.le_refl _)]
      simp only [Nat.sub_self, List.getElem_cons_zero]
      exact atKey_put_same (k := pkey p.1 p.2) h.map (by unfold pkey; trivial) _ _
    · have hx2 : x < ps.length := by omega
      rw [List.getElem_append_left hx2]
      have hm := List.getElem_mem hx2
      have hbb := hb _ hm
      rw [atKey_put_other (fun h2 => by
        obtain ⟨h3, h4⟩ := pkey_inj hbb.1 hbb.2 hb2.1 hb2.2 h2
        exact hp (by rw [← show ps[x] = p from Prod.ext h3 h4]; exact hm))]
      exact h.at_ x hx2
set_option maxRecDepth 100000 in
/-- What a look into the map of positions gives, in every world that holds it. -/
theorem look_pos {w : World} {mb n : Nat} {D : DataW Unit} (h : w.ownsMap Try.prog 98 (plainElem (H := Unit) Try.prog 3) mb n D) {i k : Nat} (hi : i ≤ 1000000) (hk : k ≤ 1000000) {x : Int} (hx : D.atKey (pkey i k) (.lit (.int .i64 0)) = .lit (.int .i64 x)) (W : World) (hW : W.heap[mb]? = w.heap[mb]?) :
    (Instr.lookup 91 (.map (some mb)) (.agg #[.int .i64 (i : Int), .int .i64 (k : Int)]) false).run Try.prog W = .ok (.int .i64 x) W := by
  have hown : W.ownsMap Try.prog 98 (plainElem (H := Unit) Try.prog 3) mb n D := by
    obtain ⟨es, clock, hb, r⟩ := h
    exact ⟨es, clock, hW.trans hb, r⟩
  obtain ⟨c, hrun, hat, _⟩ := hown.lookup_int (t := 91) lawP Try.underlying91 Try.underlying3 (zeroI' W) (pos_key hi hk)
  rw [hx] at hat
  injection hat with hat
  injection hat with _ hat
  rw [hat]
  exact hrun
end Go.Proofs.Ytaoddenadfmdbaa

/- BASE: the search in memory; WALK: add. -/
namespace Go.Proofs.Ytaoddenadfmdbaa
open Go.RowKit Go.Maps
theorem nwB {w : World} {o : Obj} {n : Nat} (hn : n = w.heap.size) : (w.alloc o).heap[n]? = some o := by subst hn; exact heap_alloc_new w o
theorem oldB {w : World} {o x : Obj} {k : Nat} (h : w.heap[k]? = some x) : (w.alloc o).heap[k]? = some x := (Below.heap_alloc _ _ _ (lt_of_block h)).trans h
/-- The cells of positions. -/
def flatQ (ps : List (Nat × Nat)) : List Value := ps.flatMap fun p => [.int .i64 (p.1 : Int), .int .i64 (p.2 : Int)]
theorem flatQ_snoc (ps : List (Nat × Nat)) (p : Nat × Nat) : flatQ (ps ++ [p]) = flatQ ps ++ [.int .i64 (p.1 : Int), .int .i64 (p.2 : Int)] := by simp [flatQ]
theorem flatQ_len (l : List (Nat × Nat)) : (flatQ l).length = l.length * 2 := by
  unfold flatQ
  induction l with
  | nil => rfl
  | cons a l ih => rw [List.flatMap_cons, List.length_append, ih, List.length_cons]; simp only [List.length_cons, List.length_nil]; omega
theorem flatQ_get : ∀ (l : List (Nat × Nat)) (k : Nat) (hk : k < l.length), (flatQ l)[k * 2]? = some (.int .i64 (l[k].1 : Int)) ∧ (flatQ l)[k * 2 + 1]? = some (.int .i64 (l[k].2 : Int))
  | a :: l, 0, _ => ⟨rfl, rfl⟩
  | a :: l, k + 1, hk => by
    obtain ⟨h1, h2⟩ := flatQ_get l k (by simpa using hk)
    unfold flatQ at h1 h2 ⊢
    rw [List.flatMap_cons]
    refine ⟨?_, ?_⟩
    · rw [List.getElem?_append_right (by simp; omega), List.getElem_cons_succ, ← h1]
      congr 1
      simp
      omega
    · rw [List.getElem?_append_right (by simp; omega), List.getElem_cons_succ, ← h2]
      congr 1
      simp
      omega
/-- The search's own block. -/
def Srb (W : World) (sb : Nat) (n : Int) (cv pv qv : Value) (mb : Nat) (rv : Value) : Prop := W.heap[sb]? = some (.cells #[.int .i64 n, cv, pv, qv, .map (some mb), rv] 95 (0, 0))
structure SrbC (W : World) (sb : Nat) (n : Int) (cv pv qv : Value) (mb : Nat) (rv : Value) : Prop where
  c0 : W.cell? ⟨sb, 0, none⟩ = some (.int .i64 n)
  c1 : W.cell? ⟨sb, 1, none⟩ = some cv
  c2 : W.cell? ⟨sb, 2, none⟩ = some pv
  c3 : W.cell? ⟨sb, 3, none⟩ = some qv
  c4 : W.cell? ⟨sb, 4, none⟩ = some (.map (some mb))
  c5 : W.cell? ⟨sb, 5, none⟩ = some rv
  z3 : W.frozen? ⟨sb, 3, none⟩ = false
  z5 : W.frozen? ⟨sb, 5, none⟩ = false
theorem Srb.cells {W : World} {sb : Nat} {n : Int} {cv pv qv : Value} {mb : Nat} {rv : Value} (h : Srb W sb n cv pv qv mb rv) : SrbC W sb n cv pv qv mb rv := by
  unfold Srb at h
  constructor <;> simp [World.cell?, World.frozen?, h]
theorem Srb.set3 {W : World} {sb : Nat} {n : Int} {cv pv qv q2 : Value} {mb : Nat} {rv : Value} (h : Srb W sb n cv pv qv mb rv) : Srb (W.setCell ⟨sb, 3, none⟩ q2) sb n cv pv q2 mb rv := by
  unfold Srb at h ⊢
  simp [World.setCell, h, Array.getElem?_modify]
theorem Srb.set5 {W : World} {sb : Nat} {n : Int} {cv pv qv r2 : Value} {mb : Nat} {rv : Value} (h : Srb W sb n cv pv qv mb rv) : Srb (W.setCell ⟨sb, 5, none⟩ r2) sb n cv pv qv mb r2 := by
  unfold Srb at h ⊢
  simp [World.setCell, h, Array.getElem?_modify]
/-- The search while its positions are listed: the map lies in block B, the search in block B + 1. -/
structure SrB (cs : List Cl) (ps : List (Nat × Nat)) (B : Nat) (n : Int) (cv pv rv : Value) (W : World) : Prop where
  ex : ∃ qv D, Srb W (B + 1) n cv pv qv B rv ∧ W.ownsRow (B + 2) 98 2 qv ps.length (flatQ ps) ∧ IdxOk cs ps D ∧ W.ownsMap Try.prog 98 (plainElem (H := Unit) Try.prog 3) B ps.length D
theorem SrB.below {cs : List Cl} {ps : List (Nat × Nat)} {B : Nat} {n : Int} {cv pv rv : Value} {W W' : World} (h : SrB cs ps B n cv pv rv W) (hb : Below W.heap.size W W') : SrB cs ps B n cv pv rv W' := by
  obtain ⟨qv, D, h1, h2, h3, h4⟩ := h.ex
  refine ⟨qv, D, (hb.block _ (lt_of_block h1)).trans h1, own_keep h2 hb, h3, ?_⟩
  obtain ⟨es, clock, hm, r⟩ := h4
  exact ⟨es, clock, (hb.block _ (lt_of_block hm)).trans hm, r⟩
theorem Try.underPos : Try.prog.underlying 92 = some (.slice 98) := by kernel_rfl
theorem Try.infoPos : (Try.prog.info? 98).map (fun i => (i.zero, i.size, i.bytes)) = some (some (.agg #[.int .i64 0, .int .i64 0]), 2, 16) := by kernel_rfl
set_option maxRecDepth 100000 in
set_option maxHeartbeats 4000000 in
theorem add_any (cs : List Cl) (ps : List (Nat × Nat)) (i k B : Nat) (n : Int) (cv pv rv : Value) (hp : (i, k) ∉ ps) (hps : ps.length ≤ 1000000) (hb : ∀ q ∈ ps, q.1 ≤ 1000000 ∧ q.2 ≤ 1000000) (hi : i ≤ 1000000) (hk : k ≤ 1000000) (w : World) (h : SrB cs ps B n cv pv rv w) :
    Calls Try.prog 36 #[.pointer (some ⟨B + 1, 0, none⟩), .agg #[.int .i64 (i : Int), .int .i64 (k : Int)]] w fun e w' => e = .returned (.tuple #[]) ∧ SrB cs (ps ++ [(i, k)]) B n cv pv rv w' ∧ Below B w w' := by
  obtain ⟨qv, D, h1, h2, h3, h4⟩ := h.ex
  obtain ⟨A, c, rfl⟩ := own_slice h2
  obtain ⟨w1, hw1⟩ : ∃ W, W = w.alloc (.cells #[.int .i64 (i : Int), .int .i64 (k : Int)] 98) := ⟨_, rfl⟩
  have hlt := lt_of_block h1
  have hb1 : Below w.heap.size w w1 := by rw [hw1]; exact (Below.refl _ _).alloc (Nat.le_refl _) _
  have H1 := hid (show Srb w1 (B + 1) n cv pv (.slice A ps.length c) B rv by rw [hw1]; exact oldB h1)
  have H2 := hid (show w1.ownsRow (B + 2) 98 2 (.slice A ps.length c) ps.length (flatQ ps) by rw [hw1]; exact h2.alloc _)
  have H4 := hid (show w1.ownsMap Try.prog 98 (plainElem (H := Unit) Try.prog 3) B ps.length D by rw [hw1]; exact h4.alloc _)
  have hpb : w1.heap[w.heap.size]? = some (.cells #[.int .i64 (i : Int), .int .i64 (k : Int)] 98 (0, 0)) := by rw [hw1]; exact nwB rfl
  have HPB := hid hpb
  have HB1 := hid hb1; have HW1 := hid hw1; have HLT := hid hlt
  have HIX := hid (h3.add hp hb ⟨hi, hk⟩)
  have HRB := hid fun (g : Nat) (e : (Value.slice A ps.length c).ownBlock = some g) => (h2.lt g e).2
  have HKEY := hid (pos_key hi hk)
  have HWF := hid (lit64 hps)
  obtain ⟨m, hm⟩ : ∃ m, m = ps.length := ⟨_, rfl⟩
  rw [← hm] at H1 H2 H4 HIX HWF hps HRB
  have HM := hid hm
  have hmx : m < maxLen := by unfold maxLen; omega
  clear h h1 h2 h3 h4 hb hp hw1 hb1 hpb hm hlt
  go_enter Try.func36, Try.ntmps36
  go_upto_region 1 with (fail)
  rw [← HW1.out]
  clear HW1
  obtain ⟨bp, hbp⟩ : ∃ b, b = w.heap.size := ⟨_, rfl⟩
  rw [← hbp] at HPB
  rw [← hbp]
  have HBP := hid hbp
  clear hbp
  have c3 := H1.out.cells.c3; have c4 := H1.out.cells.c4
  have d0 : w1.cell? ⟨bp, 0, none⟩ = some (.int .i64 (i : Int)) := by simp [World.cell?, HPB.out]
  have d1 : w1.cell? ⟨bp, 1, none⟩ = some (.int .i64 (k : Int)) := by simp [World.cell?, HPB.out]
  go_still_tail 10, (by kernel_rfl)
  go_wp2_with (first | (at_mapUpdate; refine wpList_mapUpdate_own _ rfl _ _ _ 91 rfl 98 3 lawP Try.underlying91 _ B m _ rfl H4.out hmx _ _ _ rfl rfl HKEY.out _ [] (plainElem_int Try.underlying3 HWF.out) ?_; intro w5 hown5 hgrow5; have HO5 := hid hown5; have HG5 := hid hgrow5; clear hown5 hgrow5))
  have hg0 := HG5.out
  have hg5 : w1.grownBy w5 (some B) := ⟨hg0.os, hg0.tape, hg0.output, hg0.size, hg0.block⟩
  clear hg0
  have hz5 : w1.heap.size ≤ w5.heap.size := hg5.size
  have S5 := hid (show Srb w5 (B + 1) n cv pv (.slice A m c) B rv from (hg5.block (B + 1) (lt_of_block H1.out) (by intro e; injection e with e; omega)).trans H1.out)
  have P5 := hid (show w5.heap[bp]? = some (.cells #[.int .i64 (i : Int), .int .i64 (k : Int)] 98 (0, 0)) from (hg5.block bp (lt_of_block HPB.out) (by intro e; have e2 : bp = B := (by injection e); have := HLT.out; have := HBP.out; omega)).trans HPB.out)
  have R5 := hid (show w5.ownsRow (B + 2) 98 2 (.slice A m c) m (flatQ ps) from H2.out.kept hg5 (by
    cases e : (Value.slice A m c).ownBlock with
    | none => exact .inl rfl
    | some g => exact .inr (by intro e2; injection e2 with e2; have := (H2.out.lt g e).1; omega)))
  have B5 := hid (show Below B w w5 from by
    have h1 := HB1.out
    exact ⟨hg5.os.trans h1.os, hg5.tape.trans h1.tape, hg5.output.trans h1.output, Nat.le_trans h1.size hg5.size, fun x hx => (hg5.block x (by have := h1.size; have := HLT.out; omega) (by intro e; injection e with e; omega)).trans (h1.block x (by have := HLT.out; omega))⟩)
  have HZ5 := hid (show B + 2 ≤ w5.heap.size by have := HLT.out; have := HB1.out.size; omega)
  clear hg5 hz5 H1 H2 H4 HPB HB1 HG5 c3 c4 d0 d1
  refine region_call [0, 1, 2, 3, 4, 5] [6, 7] [8, 9, 10] (fun W => Srb W (B + 1) n cv pv (.slice A m c) B rv ∧ W.heap[bp]? = some (.cells #[.int .i64 (i : Int), .int .i64 (k : Int)] 98 (0, 0))) (by kernel_rfl) (by kernel_rfl) (fun d _ _ _ _ h => by cases d <;> exact h) ⟨S5.out, P5.out⟩ ?_
  apply Exists.intro
  simp only [List.map_cons, List.map_nil, List.getD_cons_zero, List.getD_cons_succ]
  refine ⟨⟨_, Or.inl ⟨by rfl, fun W hW => by go_simp; rfl⟩, _, Or.inl ⟨by rfl, fun W hW => by go_simp; rfl⟩, _, Or.inl ⟨by rfl, fun W hW => by go_simp; rfl⟩, _, Or.inl ⟨by rfl, fun W hW => by go_simp; rfl⟩, .slice A m c, Or.inl ⟨by rfl, fun W hW => by have c3 := hW.1.cells.c3; go_simp⟩, .agg #[.int .i64 (i : Int), .int .i64 (k : Int)], Or.inl ⟨by rfl, fun W hW => by
    have d0 : W.cell? ⟨bp, 0, none⟩ = some (.int .i64 (i : Int)) := by simp [World.cell?, hW.2]
    have d1 : W.cell? ⟨bp, 1, none⟩ = some (.int .i64 (k : Int)) := by simp [World.cell?, hW.2]
    go_simp⟩, rfl⟩, ?_⟩
  simp only [Act.put, List.setIfInBounds_toArray, List.set_cons_zero, List.set_cons_succ]
  obtain ⟨w6, hw6⟩ : ∃ W, W = w5.drew := ⟨_, rfl⟩
  have S6 := hid (show Srb w6 (B + 1) n cv pv (.slice A m c) B rv by rw [hw6]; exact S5.out)
  have P6 := hid (show w6.heap[bp]? = some (.cells #[.int .i64 (i : Int), .int .i64 (k : Int)] 98 (0, 0)) by rw [hw6]; exact P5.out)
  have R6 := hid (show w6.ownsRow (B + 2) 98 2 (.slice A m c) m (flatQ ps) by rw [hw6]; exact R5.out.drew)
  have O6 := hid (show w6.ownsMap Try.prog 98 (plainElem (H := Unit) Try.prog 3) B (m + 1) _ by rw [hw6]; exact HO5.out.drew)
  have B6 := hid (show Below B w w6 by rw [hw6]; exact B5.out.drew)
  have Z6 := hid (show B + 2 ≤ w6.heap.size by rw [hw6]; exact HZ5.out)
  rw [← hw6]
  clear hw6 S5 P5 R5 HO5 B5 HZ5
  have hmb : m ≤ 10000000000 := by omega
  refine wpMid_step rfl (fun K hK => ?_)
  go_simp
  refine hK.out _ _ ⟨oldB S6.out, oldB P6.out⟩ ?_
  clear hK K
  refine wpMid_step rfl (fun K hK => ?_)
  refine op_elemF (.tmp 18) (.tmp 20) Try.underPos Try.infoPos rfl (by decide) (by decide) rfl (B + 2) _ m (flatQ ps) rfl (R6.out.alloc _) ⟨w6.heap.size, 0, none⟩ [.int .i64 (i : Int), .int .i64 (k : Int)] rfl rfl (fun j x h => cell_news_at w6 [.int .i64 (i : Int), .int .i64 (k : Int)] _ rfl j x h) (by simp [Value.oneCell']) hmb (by have := Z6.out; simp; omega) ?_
  intro v7 w7 ho7 hg7 hf7
  obtain ⟨A7, c7, rfl⟩ := own_slice ho7
  have hlt7 : ∀ g, (Value.slice A m c).ownBlock = some g → B + 2 ≤ g := fun g e => (R6.out.lt g e).1
  have hrow : ∀ x, x < B + 2 → some x ≠ (Value.slice A m c).ownBlock := fun x hx e => by have := hlt7 x e.symm; omega
  have hbpR : some bp ≠ (Value.slice A m c).ownBlock := fun e => by have := HRB.out bp e.symm; have := HBP.out; omega
  have S7 : Srb w7 (B + 1) n cv pv (.slice A m c) B rv := (hg7.block (B + 1) (lt_of_block (oldB S6.out)) (hrow _ (by omega))).trans (oldB S6.out)
  have P7 : w7.heap[bp]? = some (.cells #[.int .i64 (i : Int), .int .i64 (k : Int)] 98 (0, 0)) := (hg7.block bp (lt_of_block (oldB P6.out)) hbpR).trans (oldB P6.out)
  have O7 := ((O6.out.alloc (.cells #[.int .i64 (i : Int), .int .i64 (k : Int)] 98)).kept hg7 (hrow _ (by omega)))
  have B7 : Below B w w7 := (B6.out.alloc (by have := Z6.out; omega) _).grown hg7 (by have := Z6.out; simp; omega) (fun x e => by have := hlt7 x e; omega)
  have S7h := hid S7; have O7h := hid O7; have B7h := hid B7; have R7h := hid ho7
  refine hK.out _ _ ⟨S7, P7⟩ ?_
  clear hK K S7 P7 O7 B7 ho7 hg7 hf7 S6 P6 R6 O6 B6
  have c3 := S7h.out.cells.c3; have z3 := S7h.out.cells.z3
  simp only [wpMid, Act.put, List.setIfInBounds_toArray, List.set_cons_zero, List.set_cons_succ]
  go_wp2_with fail
  go_end0
  refine ⟨rfl, ⟨_, _, S7h.out.set3, ?_, HIX.out, ?_⟩, B7h.out.setCell (p := ⟨B + 1, 3, none⟩) (by simp) _⟩
  · rw [flatQ_snoc, List.length_append, List.length_singleton, ← HM.out]
    exact ownsRow_setCell_other R7h.out (a := ⟨B + 1, 3, none⟩) (fun he => by have h8 := (R7h.out.lt _ he).1; have h9 : (⟨B + 1, 3, none⟩ : Addr).block = B + 1 := rfl; omega) _
  · rw [List.length_append, List.length_singleton, ← HM.out]
    exact O7h.out.setCell (by simp) _
end Go.Proofs.Ytaoddenadfmdbaa

/- WALK: newSearch. -/
namespace Go.Proofs.Ytaoddenadfmdbaa
open Go.RowKit Go.Maps
theorem posTo_len {cs : List Cl} (hm : ∀ c ∈ cs, 0 ≤ c.mx ∧ c.mx ≤ 9) : ∀ i, i ≤ cs.length → (posTo cs i).length ≤ 10 * i
  | 0, _ => by simp [posTo]
  | i + 1, h => by
    have ih := posTo_len hm i (by omega)
    have h1 := hm _ (List.getElem_mem (show i < cs.length by omega))
    rw [← cl_at (by omega)] at h1
    rw [posTo_len_s]
    omega
theorem pos_new {cs : List Cl} {i k : Nat} : (i, k) ∉ posTo cs i ++ (List.range k).map fun j => (i, j) := by
  intro h
  rcases List.mem_append.1 h with h | h
  · have := (posTo_mem i h).1; omega
  · obtain ⟨j, hj, e⟩ := List.mem_map.1 h
    have := List.mem_range.1 hj
    injection e with _ e
    omega
theorem pos_new2 {cs : List Cl} : (cs.length, 0) ∉ posTo cs cs.length := fun h => by have := (posTo_mem _ h).1; simp at this
theorem pos_bd {cs : List Cl} (hm : ∀ c ∈ cs, 0 ≤ c.mx ∧ c.mx ≤ 9) (hlen : cs.length ≤ 8) {i k : Nat} (hi : i < cs.length) (hk : k ≤ 10) : ∀ q ∈ posTo cs i ++ (List.range k).map (fun j => (i, j)), q.1 ≤ 1000000 ∧ q.2 ≤ 1000000 := by
  intro q hq
  rcases List.mem_append.1 hq with h | h
  · have h1 := posTo_mem i h
    have h2 := hm _ (List.getElem_mem (show q.1 < cs.length by omega))
    rw [← cl_at (by omega)] at h2
    omega
  · obtain ⟨j, hj, rfl⟩ := List.mem_map.1 h
    have := List.mem_range.1 hj
    simp only []
    omega
theorem pos_bd2 {cs : List Cl} (hm : ∀ c ∈ cs, 0 ≤ c.mx ∧ c.mx ≤ 9) (hlen : cs.length ≤ 8) : ∀ q ∈ posTo cs cs.length, q.1 ≤ 1000000 ∧ q.2 ≤ 1000000 := by
  intro q hq
  have h1 := posTo_mem _ hq
  have h2 := hm _ (List.getElem_mem (show q.1 < cs.length by omega))
  rw [← cl_at (by omega)] at h2
  omega
theorem range_snoc (i k : Nat) (l : List (Nat × Nat)) : (l ++ (List.range k).map fun j => (i, j)) ++ [(i, k)] = l ++ (List.range (k + 1)).map fun j => (i, j) := by
  rw [List.range_succ, List.map_append, List.append_assoc]
  rfl
set_option maxRecDepth 100000 in
set_option maxHeartbeats 4000000 in
theorem newS_any (n : Nat) (cs : List Cl) (hlen : cs.length ≤ 8) (hm : ∀ c ∈ cs, 0 ≤ c.mx ∧ c.mx ≤ 9) (A2 : Option Addr) (c2 : Nat) (pv : Value) (w : World) (rc : Cls w w.heap.size A2 cs) (hpv : ∃ A3 m3 c3, pv = .slice A3 m3 c3) :
    Calls Try.prog 25 #[.int .i64 (n : Int), .slice A2 cs.length c2, pv] w fun e w' => e = .returned (.pointer (some ⟨w.heap.size + 1, 0, none⟩)) ∧ SrB cs (posL cs) w.heap.size n (.slice A2 cs.length c2) pv (.slice none 0 0) w' ∧ Below w.heap.size w w' := by
  obtain ⟨A3, m3, c3, rfl⟩ := hpv
  obtain ⟨B, hB⟩ : ∃ B, B = w.heap.size := ⟨_, rfl⟩
  obtain ⟨m, hmm⟩ : ∃ m, m = cs.length := ⟨_, rfl⟩
  obtain ⟨w1, hw1⟩ : ∃ W, W = (w.alloc (.map #[] 0)).alloc (.cells #[.int .i64 (n : Int), .slice A2 m c2, .slice A3 m3 c3, .slice none 0 0, .map (some B), .slice none 0 0] 95) := ⟨_, rfl⟩
  have hS1 : SrB cs (posTo cs 0) B n (.slice A2 m c2) (.slice A3 m3 c3) (.slice none 0 0) w1 := by
    refine ⟨.slice none 0 0, .map [], ?_, World.ownsRow_nil _ _ _ _, IdxOk.nil cs, ?_⟩
    · unfold Srb
      rw [hw1]
      exact nwB (by rw [hB]; simp)
    · rw [hw1, hB]
      exact (World.ownsMap_made (H := Unit) w Try.prog 98 (plainElem (H := Unit) Try.prog 3)).alloc _
  have hb1 : Below w.heap.size w w1 := by rw [hw1]; exact ((Below.refl _ _).alloc (Nat.le_refl _) _).alloc (by simp) _
  have HS1 := hid hS1; have HW1 := hid hw1; have HB := hid hB; have HM := hid hmm; have HRC := hid rc; have HMX := hid hm; have HB1 := hid hb1
  have hmk := @run_makeMap Try.prog
  rw [← hmm] at hlen
  rw [← hmm, ← hB]
  clear hS1 hw1 hB hmm rc hm hb1
  go_enter Try.func25, Try.ntmps25
  go_upto_region 2 with (fail)
  try rw [← HB.out]
  rw [← HW1.out]
  have HBZ := hid (show B + 2 ≤ w1.heap.size by rw [HW1.out, HB.out]; simp)
  clear HW1
  go_wp2_with fail
  go_loopw [19] (fun iv wr => ∃ i : Nat, i ≤ m ∧ iv = .int .i64 i ∧ Hid (SrB cs (posTo cs i) B n (.slice A2 m c2) (.slice A3 m3 c3) (.slice none 0 0) wr) ∧ Hid (Below B w wr) ∧ Hid (B + 2 ≤ wr.heap.size)) (fun iv _ => m - (intOf iv).toNat)
  case atStart => exact ⟨0, by omega, rfl, HS1, hid (by rw [HB.out]; exact HB1.out), HBZ⟩
  case round =>
    obtain ⟨i, hi, rfl, hS, hBe, hZ⟩ := hrel
    by_cases him : i < m
    · have hil : i < cs.length := by rw [← HM.out]; exact him
      obtain ⟨b, o, rfl, hb, hc⟩ := HRC.out.at (by omega)
      have hx := (hc i hil).below (hBe.out.mono (by rw [HB.out]; exact Nat.le_refl _)) (by omega)
      have p1 := hx.mn; have p2 := hx.mx; have p3 := hx.sg
      have h9 := HMX.out _ (List.getElem_mem hil)
      have hcl := cl_at hil
      have HPL := hid (posTo_len HMX.out i (by omega))
      have HPB := hid fun (k : Nat) (hk : k ≤ 10) => pos_bd HMX.out (by rw [← HM.out]; exact hlen) hil hk
      have HNX : Hid (posTo cs (i + 1) = posTo cs i ++ (List.range ((cl cs i).mx.toNat + 1)).map fun k => (i, k)) := hid rfl
      rw [hcl] at HNX
      generalize cs[i]'hil = x at p1 p2 p3 h9 HNX
      obtain ⟨mn, mx, sg, sa, sc⟩ := x
      simp only [] at p1 p2 p3 h9 HNX
      obtain ⟨mX, rfl⟩ : ∃ k : Nat, mx = (k : Int) := ⟨mx.toNat, by omega⟩
      have HNX2 := hid (show posTo cs (i + 1) = posTo cs i ++ (List.range (mX + 1)).map fun k => (i, k) from HNX.out)
      have q1 : (i : Int) < (m : Int) := by omega
      obtain ⟨w5, hw5⟩ : ∃ W, W = wr.alloc (.cells #[.int .i64 mn, .int .i64 (mX : Int), .slice sa sg.length sc] 30) := ⟨_, rfl⟩
      have hb5 : Below wr.heap.size wr w5 := by rw [hw5]; exact (Below.refl _ _).alloc (Nat.le_refl _) _
      have p5 : w5.cell? ⟨wr.heap.size, 1, none⟩ = some (.int .i64 (mX : Int)) := by rw [hw5]; exact cell_here rfl rfl
      have HS5 := hid (hS.out.below hb5); have HB5 := hid (hBe.out.trans (hb5.mono (by have := hZ.out; omega))); have HZ5 := hid (Nat.le_trans hZ.out hb5.size); have HW5 := hid hw5
      clear hx hc hb hcl HNX hb5 hw5
      go_upto_region 5 with (fail)
      rw [← HW5.out]
      clear HW5 p1 p2 p3
      go_wp2_with fail
      go_loopw [27] (fun kv wr => ∃ k : Nat, k ≤ mX + 1 ∧ kv = .int .i64 k ∧ Hid (SrB cs (posTo cs i ++ (List.range k).map fun j => (i, j)) B n (.slice (some ⟨b, o, none⟩) m c2) (.slice A3 m3 c3) (.slice none 0 0) wr) ∧ Hid (Below B w wr) ∧ Hid (B + 2 ≤ wr.heap.size)) (fun kv _ => mX + 1 - (intOf kv).toNat)
      case atStart => exact ⟨0, by omega, rfl, by simpa using HS5, HB5, HZ5⟩
      case round =>
        obtain ⟨k, hk, rfl, hS2, hB2, hZ2⟩ := hrel
        by_cases hkm : k < mX + 1
        · have q2 : (k : Int) < (mX : Int) + 1 := by omega
          have hpl := HPL.out
          have HAD := hid (add_any cs (posTo cs i ++ (List.range k).map fun j => (i, j)) i k B n (.slice (some ⟨b, o, none⟩) m c2) (.slice A3 m3 c3) (.slice none 0 0) pos_new (by rw [List.length_append, List.length_map, List.length_range]; omega) (HPB.out k (by omega)) (by omega) (by omega) wr hS2.out)
          go_wp2_with (first | (go_at_call 36; refine HAD.out.mono ?_; rintro e w7 ⟨rfl, hs7, hb7⟩; have HS7 := hid hs7; have HB7 := hid (hB2.out.trans hb7); have HZ7 := hid (Nat.le_trans hZ2.out hb7.size); clear hs7 hb7))
          go_roundw
          case rel => exact ⟨k + 1, by omega, by go_num, by rw [← range_snoc]; exact HS7, HB7, HZ7⟩
          case measure => simp [intOf]; omega
        · obtain rfl : k = mX + 1 := by omega
          have q2 : decide (((mX + 1 : Nat) : Int) < (mX : Int) + 1) = false := decide_eq_false (by omega)
          go_wp2_with fail
          go_roundw
          case rel => exact ⟨i + 1, by omega, by go_num, by rw [HNX2.out]; exact hS2, hB2, hZ2⟩
          case measure => simp [intOf]; omega
    · obtain rfl : i = m := by omega
      have q1 : decide ((i : Int) < (i : Int)) = false := by simp
      have hS9 := hS.out
      rw [HM.out] at hS9
      have hpl := posTo_len HMX.out cs.length (Nat.le_refl _)
      have h8 : cs.length ≤ 8 := by rw [← HM.out]; exact hlen
      have HAD := hid (add_any cs (posTo cs cs.length) cs.length 0 B n (.slice A2 cs.length c2) (.slice A3 m3 c3) (.slice none 0 0) pos_new2 (by omega) (pos_bd2 HMX.out h8) (by omega) (by omega) wr hS9)
      rw [← HM.out] at HAD
      clear hS9
      go_wp2_with (first | (go_at_call 36; refine HAD.out.mono ?_; rintro e w7 ⟨rfl, hs7, hb7⟩; have HS7 := hid hs7; have HB7 := hid (hBe.out.trans hb7); clear hs7 hb7))
      go_ret
      refine ⟨rfl, ?_, HB7.out⟩
      have h7 := HS7.out
      unfold posL
      rw [← HM.out]
      exact h7
end Go.Proofs.Ytaoddenadfmdbaa

/- BASE: the search, its cells and its positions in memory; WALK: last, total, allows, differ. -/
namespace Go.Proofs.Ytaoddenadfmdbaa
open Go.RowKit Go.Maps Go.Shelf Go.Lib
/-- The search in memory; all of it lies in blocks below K. -/
structure Sx (cs : List Cl) (par : List Int) (n B : Nat) (A2 A3 : Option Addr) (c2 c3 gq cq : Nat) (D : DataW Unit) (K : Nat) (rv : Value) (W : World) : Prop where
  s : Srb W (B + 1) n (.slice A2 cs.length c2) (.slice A3 par.length c3) (.slice (some ⟨gq, 0, none⟩) (posL cs).length cq) B rv
  cl : Cls W B A2 cs
  pa : Rd W B A3 par
  ps : ∀ x, x < (posL cs).length → W.cell? ⟨gq, x * 2, none⟩ = some (.int .i64 ((posAt cs x).1 : Int)) ∧ W.cell? ⟨gq, x * 2 + 1, none⟩ = some (.int .i64 ((posAt cs x).2 : Int))
  ix : IdxOk cs (posL cs) D
  mp : W.ownsMap Try.prog 98 (plainElem (H := Unit) Try.prog 3) B (posL cs).length D
  kb : B + 2 ≤ K
  kq : gq < K
  kw : K ≤ W.heap.size
theorem Sx.keep {cs : List Cl} {par : List Int} {n B : Nat} {A2 A3 : Option Addr} {c2 c3 gq cq : Nat} {D : DataW Unit} {K : Nat} {rv : Value} {W W' : World} (h : Sx cs par n B A2 A3 c2 c3 gq cq D K rv W) (hb : Below K W W') : Sx cs par n B A2 A3 c2 c3 gq cq D K rv W' := by
  have hkb := h.kb
  refine ⟨(hb.block _ (by omega)).trans h.s, h.cl.below (hb.mono (by omega)), h.pa.below (hb.mono (by omega)), fun x hx => ?_, h.ix, ?_, h.kb, h.kq, Nat.le_trans h.kw hb.size⟩
  · obtain ⟨h1, h2⟩ := h.ps x hx
    exact ⟨(hb.cell (p := ⟨gq, x * 2, none⟩) h.kq).trans h1, (hb.cell (p := ⟨gq, x * 2 + 1, none⟩) h.kq).trans h2⟩
  · obtain ⟨es, clock, hm, r⟩ := h.mp
    exact ⟨es, clock, (hb.block _ (by omega)).trans hm, r⟩
theorem Sx.below {cs : List Cl} {par : List Int} {n B : Nat} {A2 A3 : Option Addr} {c2 c3 gq cq : Nat} {D : DataW Unit} {K : Nat} {rv : Value} {W W' : World} (h : Sx cs par n B A2 A3 c2 c3 gq cq D K rv W) (hb : Below W.heap.size W W') : Sx cs par n B A2 A3 c2 c3 gq cq D K rv W' := h.keep (hb.mono h.kw)
/-- The number of a position, as the map tells it. -/
theorem IdxOk.numb {cs : List Cl} {D : DataW Unit} (h : IdxOk cs (posL cs) D) {i k : Nat} (hp : PosOk cs i k) : D.atKey (pkey i k) (.lit (.int .i64 0)) = .lit (.int .i64 (num cs i k : Int)) := by
  have h1 := pos_get hp
  obtain ⟨hl, e⟩ := List.getElem?_eq_some_iff.1 h1
  have h2 := h.at_ (num cs i k) hl
  rw [e] at h2
  exact h2
/-- What a look into the map of positions gives. -/
theorem Sx.look {cs : List Cl} {par : List Int} {n B : Nat} {A2 A3 : Option Addr} {c2 c3 gq cq : Nat} {D : DataW Unit} {K : Nat} {rv : Value} {w : World} (h : Sx cs par n B A2 A3 c2 c3 gq cq D K rv w) {i k : Nat} (hp : PosOk cs i k) (hi : i ≤ 1000000) (hk : k ≤ 1000000) (W : World) (hW : Below K w W) :
    (Instr.lookup 91 (.map (some B)) (.agg #[.int .i64 (i : Int), .int .i64 (k : Int)]) false).run Try.prog W = .ok (.int .i64 (num cs i k : Int)) W :=
  look_pos h.mp hi hk (h.ix.numb hp) W (hW.block B (by have := h.kb; omega))
/-- What newSearch leaves. -/
theorem Sx.of {cs : List Cl} {par : List Int} {n B : Nat} {A2 A3 : Option Addr} {c2 c3 : Nat} {rv : Value} {W : World} (h : SrB cs (posL cs) B n (.slice A2 cs.length c2) (.slice A3 par.length c3) rv W) (hc : Cls W B A2 cs) (hp : Rd W B A3 par) : ∃ gq cq D, Sx cs par n B A2 A3 c2 c3 gq cq D W.heap.size rv W := by
  obtain ⟨qv, D, h1, h2, h3, h4⟩ := h.ex
  obtain ⟨gq, cq, rfl, hq, hl⟩ := h2.form (by rw [posL_len]; omega)
  have hcs := h2.cells (g := gq) rfl
  simp only [Addr.add_lit, Nat.zero_add] at hcs
  have hlt := lt_of_block h1
  refine ⟨gq, cq, D, h1, hc, hp, fun x hx => ?_, h3, h4, by omega, hl, Nat.le_refl _⟩
  have e : (posL cs)[x] = posAt cs x := (posAt_eq (List.getElem?_eq_getElem hx)).symm
  obtain ⟨g1, g2⟩ := flatQ_get (posL cs) x hx
  rw [e] at g1 g2
  exact ⟨hcs _ _ g1, hcs _ _ g2⟩
set_option maxRecDepth 100000 in
theorem last_any {cs : List Cl} {par : List Int} {n B : Nat} {A2 A3 : Option Addr} {c2 c3 gq cq : Nat} {D : DataW Unit} {K : Nat} {rv : Value} (hnp : (posL cs).length ≤ 1000000) (w : World) (h : Sx cs par n B A2 A3 c2 c3 gq cq D K rv w) :
    Calls Try.prog 52 #[.pointer (some ⟨B + 1, 0, none⟩)] w fun e w' => e = .returned (.int .i64 (num cs cs.length 0 : Int)) ∧ w' = w := by
  have c3' := h.s.cells.c3
  have hl := posL_len cs
  obtain ⟨q, hq⟩ : ∃ q, q = num cs cs.length 0 := ⟨_, rfl⟩
  rw [← hq] at hl ⊢
  rw [hl] at c3' hnp
  have hw : IntKind.i64.wrap (((q + 1 : Nat) : Int) - 1) = (q : Int) := by rw [show (((q + 1 : Nat) : Int) - 1) = (q : Int) by omega]; exact IntWalk.i64_in _ (by omega)
  clear hq hl h
  go_enter Try.func52, Try.ntmps52
  go_wp2_with fail
  go_ret
  exact ⟨by first | rfl | go_num, rfl⟩
set_option maxRecDepth 100000 in
theorem differ_any (a b : Int) (w : World) : Calls Try.prog 71 #[.int .i64 a, .int .i64 b] w fun e w' => e = .returned (.int .i64 (df a b : Nat)) ∧ w' = w := by
  by_cases h : a = b
  · have HX := hid (show df a b = 0 from if_pos h)
    have e1 : (a != b) = false := by simp [h]
    clear h
    go_enter Try.func71, Try.ntmps71
    go_wp2_with fail
    go_ret
    exact ⟨by rw [HX.out]; rfl, rfl⟩
  · have HX := hid (show df a b = 1 from if_neg h)
    have e1 : (a != b) = true := by simp [h]
    clear h
    go_enter Try.func71, Try.ntmps71
    go_wp2_with fail
    go_ret
    exact ⟨by rw [HX.out]; rfl, rfl⟩
/-- The first place of x, or -1. -/
def idx (l : List Int) (x : Int) : Int := match l.findIdx? (fun y => decide (y = x)) with
  | some i => i
  | none => -1
def NotTo (l : List Int) (x : Int) (k : Nat) : Prop := ∀ j, j < k → j < l.length → nth l j ≠ x
theorem notTo_s {l : List Int} {x : Int} {k : Nat} (h : NotTo l x k) (h2 : nth l k ≠ x) : NotTo l x (k + 1) := fun j h3 h4 => by
  by_cases e : j = k
  · rw [e]; exact h2
  · exact h j (by omega) h4
set_option maxRecDepth 100000 in
set_option maxHeartbeats 1000000 in
theorem windex_any (l : List Int) (x : Int) (A : Option Addr) (c : Nat) (hl : l.length ≤ 1000000000000) (w : World) (B : Nat) (r : Rd w B A l) :
    Calls Try.prog 70 #[.slice A l.length c, .int .i64 x] w fun e w' => (∃ i : Int, e = .returned (.int .i64 i) ∧ (0 ≤ i ↔ x ∈ l)) ∧ ∃ q, w' = w.drewN q := by
  obtain ⟨n, hn⟩ : ∃ n, n = l.length := ⟨_, rfl⟩
  rw [← hn] at hl ⊢
  have R := hid r; have HN := hid hn
  clear r hn
  go_enter Try.func70, Try.ntmps70
  go_wp2_with fail
  go_loopw [8] (fun i wr => ∃ k : Nat, k ≤ n ∧ i = .int .i64 k ∧ Hid (NotTo l x k) ∧ ∃ q, wr = w.drewN q) (fun i _ => n - (intOf i).toNat)
  case atStart => exact ⟨0, by omega, rfl, (fun j h => by omega), 0, rfl⟩
  case round =>
    obtain ⟨k, hk, rfl, hG, q, rfl⟩ := hrel
    by_cases hkn : k < n
    · obtain ⟨b, o, rfl, _, hc⟩ := R.out.at (by rw [← HN.out]; omega)
      have p1 := hc k (by rw [← HN.out]; exact hkn)
      have hnx := notTo_s hG.out
      have hmem : nth l k ∈ l := by
        rw [nth, List.getD, List.getElem?_eq_getElem (by rw [← HN.out]; exact hkn)]
        simp
      generalize nth l k = y at p1 hnx hmem
      clear hc
      have HNX := hid hnx; have HMEM := hid hmem
      clear hnx hmem
      by_cases hxy : x = y
      · have hxe : (x == y) = true := by simp [hxy]
        have HIN : Hid (x ∈ l) := by rw [hxy]; exact HMEM.out
        clear hxy
        go_wp2_with fail
        all_goals
          go_ret
          exact ⟨⟨_, rfl, ⟨fun _ => HIN.out, fun _ => by omega⟩⟩, q, rfl⟩
      · have hxe : (x == y) = false := by simp [hxy]
        have HX := hid (HNX.out fun e => hxy e.symm)
        clear hxy
        go_wp2_with fail
        go_roundw
        case rel => exact ⟨k + 1, by omega, by go_num, HX.out, q, rfl⟩
        case measure => simp [intOf]; omega
    · obtain rfl : n = k := by omega
      have HNO : Hid (¬ x ∈ l) := fun hm => by
        obtain ⟨j, hj, e⟩ := List.getElem_of_mem hm
        refine hG.out j (by rw [HN.out]; exact hj) hj ?_
        rw [nth, List.getD, List.getElem?_eq_getElem hj]
        exact e
      go_wp2_with fail
      go_ret
      exact ⟨⟨_, rfl, ⟨fun h => absurd h (by decide), fun h => absurd h HNO.out⟩⟩, q, rfl⟩
set_option maxRecDepth 100000 in
set_option maxHeartbeats 1000000 in
theorem wcontains_any (l : List Int) (x : Int) (A : Option Addr) (c : Nat) (hl : l.length ≤ 1000000000000) (w : World) (B : Nat) (r : Rd w B A l) :
    Calls Try.prog 56 #[.slice A l.length c, .int .i64 x] w fun e w' => e = .returned (.bool (l.contains x)) ∧ ∃ q, w' = w.drewN q := by
  have HI := hid (windex_any l x A c hl w B r)
  clear r
  go_enter Try.func56, Try.ntmps56
  go_wp2_with (first | (go_at_call 70; refine HI.out.mono ?_; rintro e w' ⟨⟨i, rfl, hi⟩, q, rfl⟩))
  go_ret
  refine ⟨?_, q, rfl⟩
  show Ending.returned (Value.bool _) = _
  congr 2
  rw [Bool.eq_iff_iff, List.contains_iff_mem]
  simp []
set_option maxRecDepth 100000 in
theorem allows_any (c : Cl) (s : Int) (hs : c.signs.length ≤ 20) (w : World) (B : Nat) (hB : B ≤ w.heap.size) (r : Rd w B c.sa c.signs) :
    Calls Try.prog 67 #[.agg #[.int .i64 c.mn, .int .i64 c.mx, .slice c.sa c.signs.length c.sc], .int .i64 s] w fun e w' => e = .returned (.bool (alw c s)) ∧ Below w.heap.size w w' := by
  obtain ⟨mn, mx, sg, sa, sc⟩ := c
  simp only [] at hs r ⊢
  obtain ⟨w1, hw1⟩ : ∃ W, W = w.alloc (.cells #[.int .i64 mn, .int .i64 mx, .slice sa sg.length sc] 30) := ⟨_, rfl⟩
  have hb1 : Below w.heap.size w w1 := by rw [hw1]; exact (Below.refl _ _).alloc (Nat.le_refl _) _
  have p1 : w1.cell? ⟨w.heap.size, 2, none⟩ = some (.slice sa sg.length sc) := by rw [hw1]; exact cell_here rfl rfl
  have HCN := hid (wcontains_any sg s sa sc (by omega) w1 B (r.below (hb1.mono hB)))
  have HX := hid (show alw ⟨mn, mx, sg, sa, sc⟩ s = (decide (sg.length = 0) || sg.contains s) from rfl)
  have HB1 := hid hb1; have HW1 := hid hw1
  obtain ⟨m, hm⟩ : ∃ m, m = sg.length := ⟨_, rfl⟩
  rw [← hm] at HCN HX p1 HW1 hs ⊢
  generalize alw ⟨mn, mx, sg, sa, sc⟩ s = R at HX ⊢
  generalize sg.contains s = C at HCN HX
  clear hm r hb1 hw1
  by_cases h0 : m = 0
  · have e1 : ((m : Int) == 0) = true := by simp [h0]
    have HY := hid (show R = true by rw [HX.out, decide_eq_true h0]; rfl)
    clear h0
    go_enter Try.func67, Try.ntmps67
    go_upto_region 1 with (fail)
    rw [← HW1.out]
    clear HW1
    go_wp2_with fail
    go_ret
    exact ⟨by rw [HY.out]; rfl, HB1.out⟩
  · have e1 : ((m : Int) == 0) = false := by simp [h0]
    have HY := hid (show R = C by rw [HX.out, decide_eq_false h0]; rfl)
    clear h0
    go_enter Try.func67, Try.ntmps67
    go_upto_region 1 with (fail)
    rw [← HW1.out]
    clear HW1
    go_wp2_with (first | (go_at_call 56; refine HCN.out.mono ?_; rintro e w3 ⟨rfl, q, rfl⟩))
    go_ret
    exact ⟨by rw [HY.out]; rfl, HB1.out.trans ⟨rfl, rfl, rfl, Nat.le_refl _, fun _ _ => rfl⟩⟩
end Go.Proofs.Ytaoddenadfmdbaa

/- BASE: a queue: a slice of numbers that is cut at its front and grows at its end. -/
namespace Go.Proofs.Ytaoddenadfmdbaa
open Go.RowKit
/-- A queue of numbers in a block of one's own, from K on. -/
def Qu (W : World) (K : Nat) (v : Value) (q : List Int) : Prop := ∃ g o c, v = .slice (some ⟨g, o, none⟩) q.length c ∧ q.length ≤ c ∧ c ≤ maxLen ∧ K ≤ g ∧ ∃ cur, W.heap[g]? = some (.cells cur 3 (0, 0)) ∧ o + c ≤ cur.size ∧ ∀ j (_ : j < q.length), cur[o + j]? = some (.int .i64 (nth q j))
theorem Qu.of_own {W : World} {K n : Nat} {v : Value} {q : List Int} (h : W.ownsRow K 3 1 v n (ints q)) (hn : n = q.length) (hq : 0 < q.length) : Qu W K v q := by
  subst hn
  rcases h.2 with ⟨_, h2⟩ | ⟨g, cap, cur, rfl, hb, hh, h1, h2, h3, h4⟩
  · omega
  · refine ⟨g, 0, cap, rfl, h1, h2, hb, cur, hh, by omega, fun j hj => ?_⟩
    have h5 : (ints q)[j]? = some (.int .i64 (nth q j)) := ints_get hj
    rw [← h4, List.getElem?_take, if_pos (by omega)] at h5
    rw [Nat.zero_add]
    simpa using h5
theorem Qu.keep {W W' : World} {K : Nat} {v : Value} {q : List Int} (h : Qu W K v q) (hb : ∀ g, v.ownBlock = some g → K ≤ g → W'.heap[g]? = W.heap[g]?) : Qu W' K v q := by
  obtain ⟨g, o, c, rfl, h1, h2, h3, cur, h4, h5⟩ := h
  exact ⟨g, o, c, rfl, h1, h2, h3, cur, (hb g rfl h3).trans h4, h5⟩
theorem Qu.lt {W : World} {K : Nat} {v : Value} {q : List Int} (h : Qu W K v q) : ∀ g, v.ownBlock = some g → K ≤ g ∧ g < W.heap.size := by
  obtain ⟨g, o, c, rfl, h1, h2, h3, cur, h4, h5⟩ := h
  intro g' e
  have e2 : g = g' := by injection e
  subst e2
  exact ⟨h3, lt_of_block h4⟩
theorem Qu.below {W W' : World} {K : Nat} {v : Value} {q : List Int} (h : Qu W K v q) (hb : Below W.heap.size W W') : Qu W' K v q := h.keep fun g e _ => hb.block g (h.lt g e).2
/-- The front is cut off. -/
theorem Qu.pop {W : World} {K : Nat} {g o n c : Nat} {x : Int} {q : List Int} (h : Qu W K (.slice (some ⟨g, o, none⟩) n c) (x :: q)) : n = q.length + 1 ∧ W.cell? ⟨g, o, none⟩ = some (.int .i64 x) ∧ 1 ≤ c ∧ Qu W K (.slice (some (if c = 1 then ⟨g, o, none⟩ else ⟨g, o + 1, none⟩)) (n - 1) (c - 1)) q := by
  obtain ⟨g', o', c', e, h1, h2, h3, cur, h4, h5, h6⟩ := h
  injection e with e1 e2 e3
  injection e1 with e1
  injection e1 with e1 e4
  subst e1 e2 e3 e4
  rw [List.length_cons] at h1 h6 ⊢
  refine ⟨rfl, ?_, by omega, ?_⟩
  · have := h6 0 (by omega)
    rw [Nat.add_zero] at this
    rw [cell_of_row W g o cur _ _ h4]
    exact this
  · by_cases hc : c = 1
    · rw [if_pos hc]
      exact ⟨g, o, c - 1, rfl, by omega, by omega, h3, cur, h4, by omega, fun j hj => by omega⟩
    · rw [if_neg hc]
      refine ⟨g, o + 1, c - 1, rfl, by omega, by omega, h3, cur, h4, by omega, fun j hj => ?_⟩
      have := h6 (j + 1) (by omega)
      rw [show o + (j + 1) = o + 1 + j by omega] at this
      exact this
theorem Qu.form {W : World} {K : Nat} {v : Value} {q : List Int} (h : Qu W K v q) : ∃ g o c, v = .slice (some ⟨g, o, none⟩) q.length c ∧ q.length ≤ c ∧ K ≤ g ∧ g < W.heap.size := by
  obtain ⟨g, o, c, rfl, h1, h2, h3, cur, h4, h5⟩ := h
  exact ⟨g, o, c, rfl, h1, h3, lt_of_block h4⟩
/-- One number more at the end. -/
theorem Qu.push {w : World} {K : Nat} {v : Value} {q : List Int} (h : Qu w K v q) (ty : TypeId) (x : Int) (ad : Addr) (hx : w.cell? ad = some (.int .i64 x)) (hq : q.length ≤ 1000000) (hK : K ≤ w.heap.size) :
    ∃ v' w', (Builtin.append_ #[26, 26] ty #[v, .slice (some ad) 1 1]).run Try.prog w = .ok v' w' ∧ Qu w' K v' (q ++ [x]) ∧ w.grownBy w' v.ownBlock ∧ (∀ g, v'.ownBlock = some g → v.ownBlock = some g ∨ w.heap.size ≤ g) := by
  obtain ⟨g, o, c, rfl, h1, h2, h3, cur, h4, h5, h6⟩ := h
  obtain ⟨i0, hi, hz0, hzz, hz2⟩ := info_parts Try.infoInt
  have hnews : ∀ j u, [Value.int .i64 x][j]? = some u → w.cell? (ad.add j) = some u := fun j u hj => by
    cases j with
    | zero =>
      simp at hj
      subst hj
      have e : ad.add 0 = ad := by unfold Addr.add; simp
      rw [e]
      exact hx
    | succ j => simp at hj
  have hlen : (q ++ [x]).length = q.length + 1 := by simp
  by_cases hr : q.length + 1 ≤ c
  · have hrun := run_append_room_cells (P := Try.prog) w 26 ty 3 i0 Try.underlying26 hi g o q.length c ad 1 1 [.int .i64 x] (by rw [hzz]; rfl) hnews (by simp [Value.oneCell']) hr
      (fun j hj => by
        have : j = 0 := by simp at hj; exact hj
        subst this
        rw [cell_of_row w g _ cur _ _ h4, hzz]
        have : o + q.length < cur.size := by omega
        simp [this]) (fun j hj => frozen_of_row w g _ cur _ h4)
    refine ⟨_, _, hrun, ?_, ?_, fun g' e => .inl e⟩
    · refine ⟨g, o, c, by rw [hlen], by rw [hlen]; exact hr, h2, h3, cur.setIfInBounds (o + q.length) (.int .i64 x), ?_, by simpa using h5, fun j hj => ?_⟩
      · have := heap_setCell_same w g (o + q.length) cur 3 (.int .i64 x) h4
        rw [hzz]
        simpa [World.setCells] using this
      · rw [hlen] at hj
        by_cases e : j = q.length
        · subst e
          rw [Array.getElem?_setIfInBounds_self_of_lt (by omega)]
          simp [nth, List.getD]
        · rw [Array.getElem?_setIfInBounds_ne (by omega), h6 j (by omega)]
          have hj2 : j < q.length := by omega
          simp [nth, List.getD, List.getElem?_append_left hj2]
    · rw [hzz]
      refine ⟨rfl, rfl, rfl, by simp [World.setCells], fun k _ hk => ?_⟩
      have hne : k ≠ g := fun e => hk (by rw [e]; rfl)
      simpa [World.setCells] using Below.heap_setCell w ⟨g, o + q.length * 1, none⟩ (.int .i64 x) k hne
  · have holds : ∀ j u, (ints q)[j]? = some u → w.cell? ((⟨g, o, none⟩ : Addr).add j) = some u := fun j u hj => by
      have hjl : j < q.length := by
        have := (List.getElem?_eq_some_iff.1 hj).1
        simpa using this
      rw [ints_get hjl] at hj
      rw [Addr.add_lit, cell_of_row w g _ cur _ _ h4]
      rw [← hj]
      exact h6 j hjl
    obtain ⟨v', w', hrun, r1, r2⟩ := run_append_arg_grows (P := Try.prog) w 26 ty 3 i0 (.int .i64 0) 1 8 Try.underlying26 hi hz0 hzz hz2 rfl (by decide) ⟨g, o, none⟩ q.length c (ints q) (by simp) holds ad 1 1 [.int .i64 x] rfl hnews (by omega) (by unfold maxLen; omega) (by omega)
    refine ⟨v', w', hrun, ?_, ⟨r2.os, r2.tape, r2.output, r2.size, fun k hk _ => r2.block k hk (by simp)⟩, fun g' e => .inr (r1.lt g' e).1⟩
    have e : ints q ++ [.int .i64 x] = ints (q ++ [x]) := by simp [ints]
    rw [e] at r1
    have hQ := Qu.of_own r1 hlen.symm (by rw [hlen]; omega)
    obtain ⟨g2, o2, c2, rfl, k1, k2, k3, cur2, k4, k5⟩ := hQ
    exact ⟨g2, o2, c2, rfl, k1, k2, by omega, cur2, k4, k5⟩
/-- The append, as an operation of the walk. -/
theorem wp_push {ops : Array Oper} {rest : List Oper} {o : Oper} {a : Act} {w : World} {Q : Exit → Act → World → Prop} (hgd : o.guard = none) (s x : Operand)
    (ho : o.op = .call { callee := .builtin .append, args := #[s, x], argTypes := #[26, 26] })
    (K : Nat) (v : Value) (q : List Int) (hs : a.eval s = v) (hq : Qu w K v q) (ad : Addr) (u : Int) (hx : a.eval x = .slice (some ad) 1 1) (hu : w.cell? ad = some (.int .i64 u)) (hn : q.length ≤ 1000000) (hK : K ≤ w.heap.size)
    (h : ∀ v' w', Qu w' K v' (q ++ [u]) → w.grownBy w' v.ownBlock → (∀ g, v'.ownBlock = some g → v.ownBlock = some g ∨ w.heap.size ≤ g) → wpList Try.prog ops Q rest (a.put o.dst v') w') : wpList Try.prog ops Q (o :: rest) a w := by
  obtain ⟨v', w', hrun, r1, r2, r3⟩ := hq.push o.type u ad hu hn hK
  refine wpList_plain hgd fun K2 hK' => ?_
  unfold Oper.wp execOp
  simp only [ho, resolve, invoke, builtin, Sem.run_bind, Sem.run_pure, Result.andThen_ok, List.map_toArray, List.map_cons, List.map_nil, hs, hx, hrun]
  exact hK' _ _ (h v' w' r1 r2 r3)
end Go.Proofs.Ytaoddenadfmdbaa
