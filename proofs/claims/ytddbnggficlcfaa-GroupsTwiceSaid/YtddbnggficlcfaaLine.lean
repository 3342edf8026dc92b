/- WALK: groups.line: the marks of a valid text. -/
import Derived.Test.YtddbnggficlcfaaOrd2
namespace Go.Proofs.Ytddbnggficlcfaa
open Go.RowKit Go.Shelf
structure Mk where
  sign : Int
  state : Int
  mn : Int
  mx : Int
deriving DecidableEq
instance : Inhabited Mk := ⟨⟨0, 0, 0, 0⟩⟩
def Mk.cells (m : Mk) : List Value := [.int .i64 m.sign, .int .i64 m.state, .int .i64 m.mn, .int .i64 m.mx]
def flatM (l : List Mk) : List Value := l.flatMap Mk.cells
theorem flatM_app (xs ys : List Mk) : flatM (xs ++ ys) = flatM xs ++ flatM ys := by unfold flatM; rw [List.flatMap_append]
theorem flatM_len (l : List Mk) : (flatM l).length = l.length * 4 := by
  unfold flatM
  induction l with
  | nil => rfl
  | cons a l ih => rw [List.flatMap_cons, List.length_append, ih, List.length_cons]; simp only [Mk.cells, List.length_cons, List.length_nil]; omega
def mkOf (n : Nd) : Mk := if n.kind = 6 then ⟨-1, 0, n.mn, n.mx⟩ else ⟨n.sign, n.state, 0, 0⟩
def mkAt (l : List Nd) (i : Nat) : Mk := match l[i]? with
  | some n => mkOf n
  | none => ⟨0, 0, 0, 0⟩
theorem mkAt_at {l : List Nd} {i : Nat} (h : i < l.length) : mkAt l i = mkOf l[i] := by
  unfold mkAt
  rw [List.getElem?_eq_getElem h]
theorem Try.infoMark : (Try.prog.info? 70).map (fun i => (i.zero, i.size, i.bytes)) = some (some (.agg #[.int .i64 0, .int .i64 0, .int .i64 0, .int .i64 0]), 4, 32) := by kernel_rfl
set_option maxRecDepth 100000 in
set_option maxHeartbeats 1000000 in
theorem mark_any (n : Nd) (w : World) :
    Calls Try.prog 94 #[.agg #[.int .i64 n.kind, .int .i64 n.depth, .int .i64 n.sign, .int .i64 n.turn, .bool n.mir, .int .i64 n.state, .int .i64 n.mn, .int .i64 n.mx]] w fun e w' =>
      e = .returned (.agg #[.int .i64 (mkOf n).sign, .int .i64 (mkOf n).state, .int .i64 (mkOf n).mn, .int .i64 (mkOf n).mx]) ∧ Below w.heap.size w w' := by
  by_cases h : n.kind = 6
  · have e1 : (n.kind == 6) = true := by simp [h]
    have hm : mkOf n = ⟨-1, 0, n.mn, n.mx⟩ := if_pos h
    rw [hm]
    clear hm h
    go_enter Try.func94, Try.ntmps94
    go_wp2_with fail
    exact bodyPost_ret (v := .agg #[.int .i64 (-1), .int .i64 0, .int .i64 n.mn, .int .i64 n.mx]) (by simp [results, Try.results94, go_sem]) rfl ⟨rfl, ((Below.refl _ _).alloc (Nat.le_refl _) _).alloc (by simp) _⟩
  · have e1 : (n.kind == 6) = false := by simp [h]
    have hm : mkOf n = ⟨n.sign, n.state, 0, 0⟩ := if_neg h
    rw [hm]
    clear hm h
    go_enter Try.func94, Try.ntmps94
    go_wp2_with fail
    exact bodyPost_ret (v := .agg #[.int .i64 n.sign, .int .i64 n.state, .int .i64 0, .int .i64 0]) (by simp [results, Try.results94, go_sem]) rfl ⟨rfl, ((Below.refl _ _).alloc (Nat.le_refl _) _).alloc (by simp) _⟩
theorem step_mk {ops : Array Oper} {o : Oper} {a : Act} {w : World} {K : Act → World → Prop} {Q : Exit → Act → World → Prop} {E : Prop} (hgd : o.guard = none) (s x : Operand)
    (ho : o.op = .call { callee := .builtin .append, args := #[s, x], argTypes := #[44, 44] })
    (base : Nat) (v : Value) (n : Nat) (xs : List Mk) (hs : a.eval s = v) (hown : w.ownsRow base 70 4 v n (flatM xs))
    (ad : Addr) (m : Mk) (hx : a.eval x = .slice (some ad) 1 1) (hp : ∀ j u, m.cells[j]? = some u → w.cell? (ad.add j) = some u) (hn : n ≤ 1000000) (hbase : base ≤ w.heap.size)
    (h : ∀ v' w', w'.ownsRow base 70 4 v' (n + 1) (flatM (xs ++ [m])) → w.grownBy w' v.ownBlock → K (a.put o.dst v') w') :
    if Region.wanted o (yielded ops a.tmps) = true then Oper.wp Try.prog o a w K Q else E := by
  rw [if_pos (by simp [Region.wanted, hgd])]
  obtain ⟨i0, hi, hz0, hzz, hz2⟩ := info_parts Try.infoMark
  refine wp_append_own w s x _ ho base _ i0 _ 4 32 Try.underlying44 hi hz0 hzz hz2 rfl (by decide) v n (flatM xs) hs hown ad 1 1 m.cells hx rfl hp (fun u hu => ?_) (by unfold maxLen; omega) (by omega) hbase (fun v' w' a b _ => h v' w' (by rw [flatM_app]; simpa [flatM] using a) b)
  simp only [Mk.cells, List.mem_cons, List.not_mem_nil, or_false] at hu
  rcases hu with rfl | rfl | rfl | rfl <;> rfl
/-- What line keeps: the text's box, the cell of the marks, the marks. -/
structure LJ (l : List Nd) (A : Option Addr) (c B0 : Nat) (w : World) (ls : List Nat) (W : World) : Prop where
  t_ : W.heap[B0]? = some (.cells #[.slice A l.length c] 27 (0, 0))
  o_ : ∃ v, W.heap[B0 + 1]? = some (.cells #[v] 44 (0, 0)) ∧ W.ownsRow (B0 + 7) 70 4 v ls.length (flatM (ls.map (mkAt l)))
  bel : Below B0 w W
theorem LJ.below {l : List Nd} {A : Option Addr} {c B0 : Nat} {w : World} {ls : List Nat} {W W' : World} (h : LJ l A c B0 w ls W) (hb : Below W.heap.size W W') : LJ l A c B0 w ls W' := by
  obtain ⟨v, h1, h2⟩ := h.o_
  exact ⟨(hb.block _ (lt_of_block h.t_)).trans h.t_, ⟨v, (hb.block _ (lt_of_block h1)).trans h1, own_keep h2 hb⟩, h.bel.trans (hb.mono (by have := lt_of_block h.t_; omega))⟩
theorem LJ.read {l : List Nd} {A : Option Addr} {c B0 : Nat} {w : World} {ls : List Nat} {W : World} (h : LJ l A c B0 w ls W) (v : Value) : LJ l A c B0 w ls (W.setCell ⟨B0 + 2 + 3, 0, none⟩ v) := by
  obtain ⟨u, h1, h2⟩ := h.o_
  exact ⟨(Below.heap_setCell _ _ _ _ (by simp <;> omega)).trans h.t_, ⟨u, (Below.heap_setCell _ _ _ _ (by simp <;> omega)).trans h1, ownsRow_setCell_other h2 (a := ⟨B0 + 2 + 3, 0, none⟩) (fun he => by have := (h2.lt _ he).1; simp at this; omega) v⟩, h.bel.setCell (by simp; omega) _⟩
/-- The step of line$1: a mark is appended, and the cell of the marks is stored. -/
theorem line_next {l : List Nd} {A : Option Addr} {c n0 B0 i : Nat} {w W w3 w4 : World} {ls : List Nat} {v v4 : Value} {mk : Mk} {X : Obj} (hn0 : n0 ≤ B0) (hsz : B0 + 2 + 5 ≤ W.heap.size) (hJ : LJ l A c B0 w ls W) (ho : W.heap[B0 + 1]? = some (.cells #[v] 44 (0, 0)))
    (hown : W.ownsRow (B0 + 7) 70 4 v ls.length (flatM (ls.map (mkAt l)))) (hmk : mk = mkAt l i) (hb3 : Below W.heap.size W w3) (ho4 : w4.ownsRow (B0 + 7) 70 4 v4 (ls.length + 1) (flatM (ls.map (mkAt l) ++ [mk]))) (hg4 : (w3.alloc X).grownBy w4 v.ownBlock) :
    (w4.cell? ⟨B0 + 1, 0, none⟩ = some v ∧ w4.frozen? ⟨B0 + 1, 0, none⟩ = false) ∧ LJ l A c B0 w (ls ++ [i]) (w4.setCell ⟨B0 + 1, 0, none⟩ v4) ∧ KV n0 (B0 + 2) W (w4.setCell ⟨B0 + 1, 0, none⟩ v4) ∧ (w4.setCell ⟨B0 + 1, 0, none⟩ v4).heap[B0 + 2 + 3]? = W.heap[B0 + 2 + 3]? := by
  have hb : Below W.heap.size W (w3.alloc X) := hb3.alloc hb3.size _
  have hk : ∀ (k : Nat) (o : Obj), W.heap[k]? = some o → (k < B0 + 7 ∨ ∃ (cs : Array Value) (fz : Nat × Nat), o = Obj.cells cs 3 fz) → w4.heap[k]? = some o := fun k o h1 h2 => by
    have h3 := (hb.block k (lt_of_block h1)).trans h1
    refine (hg4.block k (lt_of_block h3) fun e => ?_).trans h3
    rcases hown.2 with ⟨h4, _⟩ | ⟨g, cap, cur, hv, hg, hh, _⟩
    · rw [h4] at e; cases e
    · rw [hv] at e
      injection e with e
      have e2 : k = g := e
      subst e2
      rcases h2 with h2 | ⟨cs, fz, rfl⟩
      · omega
      · rw [hh] at h1
        injection h1 with h1
        injection h1 with _ h1 _
        exact absurd h1 (by decide)
  have hO := hk _ _ ho (.inl (by omega))
  have hset : ∀ k : Nat, k ≠ B0 + 1 → (w4.setCell ⟨B0 + 1, 0, none⟩ v4).heap[k]? = w4.heap[k]? := fun k h => Below.heap_setCell _ _ _ _ h
  have hbel : Below B0 W w4 := (below_app (hb.mono (show B0 ≤ W.heap.size by omega)) (own_keep hown hb) hg4 (by omega) (by have := hb.size; omega))
  have h9 : W.heap[B0 + 2 + 3]? = w4.heap[B0 + 2 + 3]? := by
    have hlt : B0 + 2 + 3 < W.heap.size := by omega
    have h1 : W.heap[B0 + 2 + 3]? = some W.heap[B0 + 2 + 3] := Array.getElem?_eq_getElem hlt
    rw [h1]
    exact (hk _ _ h1 (.inl (by omega))).symm
  refine ⟨⟨cell_of_one hO, free_of_one hO⟩, ⟨?_, ⟨v4, one_setCell hO, ?_⟩, ?_⟩, ⟨?_, fun k o h1 h2 h3 => ?_⟩, ?_⟩
  · rw [hset _ (by omega)]
    exact hk _ _ hJ.t_ (.inl (by omega))
  · rw [List.length_append, List.map_append]
    have := ownsRow_setCell_other ho4 (a := ⟨B0 + 1, 0, none⟩) (fun he => by have := (ho4.lt _ he).1; simp at this <;> omega) v4
    rw [hmk] at this
    exact this
  · exact hJ.bel.trans (hbel.setCell (by simp) _)
  · exact (hbel.mono hn0).setCell (by simp; omega) _
  · rcases h2 with h2 | h2
    · rw [hset _ (by omega)]
      exact hk _ _ h3 (.inl (by omega))
    · obtain ⟨cs, fz, rfl⟩ := h2
      rw [hset _ (fun e => ?_)]
      · exact hk _ _ h3 (.inr ⟨cs, fz, rfl⟩)
      · subst e
        rw [ho] at h3
        injection h3 with h3
        injection h3 with _ h3 _
        exact absurd h3 (by decide)
  · rw [hset _ (by omega)]
    exact h9.symm
set_option maxRecDepth 100000 in
set_option maxHeartbeats 2000000 in
theorem line1_any (l : List Nd) (A : Option Addr) (c n0 B0 : Nat) (rf : Nat) (rc : Array Value) (w : World) (hn0 : n0 ≤ B0) (ls : List Nat) (i : Nat) (hi : i < l.length) (hlen : ls.length < 1000000) (W : World) (hJ : LJ l A c B0 w ls W) (hV : VF l A c n0 (B0 + 2) 93 #[.pointer (some ⟨B0 + 1, 0, none⟩), .pointer (some ⟨B0, 0, none⟩)] rf rc W) :
    Calls Try.prog 93 #[.int .i64 (i : Int), .pointer (some ⟨B0 + 1, 0, none⟩), .pointer (some ⟨B0, 0, none⟩)] W fun e w' => e = .returned (.tuple #[]) ∧ LJ l A c B0 w (ls ++ [i]) w' ∧ KV n0 (B0 + 2) W w' ∧ w'.heap[B0 + 2 + 3]? = W.heap[B0 + 2 + 3]? := by
  obtain ⟨v, ho, hown⟩ := hJ.o_
  have p1 := cell_of_one ho
  have z1 := free_of_one ho
  have p2 := cell_of_one hJ.t_
  obtain ⟨b, o, rfl, hbB, hc⟩ := hV.nds.at (by omega)
  have hnd := hc i hi
  have k1 := hnd.kind; have k2 := hnd.depth; have k3 := hnd.sign; have k4 := hnd.turn; have k5 := hnd.mir; have k6 := hnd.state; have k7 := hnd.mn; have k8 := hnd.mx
  have hmk := mkAt_at hi
  have hma := fun w3 => mark_any l[i] w3
  rw [← hmk] at hma
  generalize l[i] = nd at k1 k2 k3 k4 k5 k6 k7 k8 hma
  obtain ⟨A5, c5, rfl⟩ := own_slice hown
  have hsz := hV.size
  obtain ⟨mk, hmk2⟩ : ∃ mk, mk = mkAt l i := ⟨_, rfl⟩
  rw [← hmk2] at hma
  have HMA := hid hma
  obtain ⟨N, hN⟩ : ∃ N, N = l.length := ⟨_, rfl⟩
  rw [← hN] at p2 hi
  have q0 : (i : Int) < (N : Int) := by omega
  have HN := hid hN; have HMK := hid hmk2; have HJ := hid hJ; have HV := hid hV; have HO := hid ho; have HOW := hid hown
  clear hmk hma hnd hc hN hmk2 hJ hV ho hown
  go_enter Try.func93, Try.ntmps93
  go_wp2_with fail
  have HNX := hid fun (w3 : World) (hb3 : Below W.heap.size W w3) (v4 : Value) (w4 : World) (ho4 : w4.ownsRow (B0 + 7) 70 4 v4 (ls.length + 1) (flatM (ls.map (mkAt l) ++ [mk]))) (hg4 : (w3.alloc (.cells #[.int .i64 mk.sign, .int .i64 mk.state, .int .i64 mk.mn, .int .i64 mk.mx] 70)).grownBy w4 (Value.slice A5 ls.length c5).ownBlock) =>
    line_next hn0 hsz HJ.out HO.out HOW.out HMK.out hb3 ho4 hg4
  go_region_law (first
    | (refine step_mk rfl (.tmp 4) (.tmp 11) rfl (B0 + 7) _ _ _ rfl (own_keep HOW.out (HB3.out.alloc HB3.out.size _)) ⟨w3.heap.size, 0, none⟩ mk (by simp [Act.eval]) (cell_news w3 mk.cells 70) (by omega) (by have := HB3.out.size; simp; omega) ?_; intro v4 w4 ho4 hg4; have hx4 := HNX.out w3 HB3.out v4 w4 ho4 hg4; have p9 := hx4.1.1; have z9 := hx4.1.2; have H4 := hid hx4.2; obtain ⟨A6, c6, rfl⟩ := own_slice ho4; clear ho4 hg4 hx4)
    | (go_simp; go_at_call 94; refine (HMA.out _).mono ?_; rintro e w3 ⟨rfl, hb3⟩; have p3 := (hb3.cell (p := ⟨B0 + 1, 0, none⟩) (by simp; omega)).trans p1; have hlt3 : B0 + 1 < w3.heap.size := (by have := hb3.size; simp at this; omega); have HB3 := hid ((Below.refl _ _).drew.trans hb3)))
  all_goals
    go_wp2_with fail
    go_end0
    exact ⟨rfl, H4.out.1, H4.out.2.1, H4.out.2.2⟩
end Go.Proofs.Ytddbnggficlcfaa
